/- The iterator of strings.SplitSeq at a comma, by the contract that a range over it wants: it keeps its rest in a cell of its own. By the prover of this repo. -/
import Derived.RangeFuncBox
import Derived.RangeFuncNested
import Derived.Test.YtlnbglpddpgooaaDoorEach
import Derived.Test.YtlnbglpddpgooaaDoorRangeC
import Derived.Test.YtlnbglpddpgooaaDoorSplM
import Derived.Test.YtlnbglpddpgooaaDoorShelf
namespace Go.Proofs.YtlnbglpddpgooaaDoor
open Go.RowKit Go.Shelf

attribute [local go_sem] Oper.semAt_some

/-- A row. -/
abbrev Row := { x : ByteArray // x.size ≤ 1000 }
def encR (x : Row) : Array Value := #[.string x.1]
/-- The three cells of the iterator lie as they lay. -/
def KeepB (z : Nat) (A B : World) : Prop := ∀ k, z ≤ k → k < z + 3 → B.heap[k]? = A.heap[k]?
theorem KeepB.box {z : Nat} {A B : World} (h : KeepB z A B) {k : Nat} {t : TypeId} {v : Value} (h1 : z ≤ k) (h2 : k < z + 3) (hb : Boxed A k t v) : Boxed B k t v := (h k h1 h2).trans hb
/-- How long the text in a cell is. -/
def szAt (b : Nat) (W : World) : Nat := match W.cell? ⟨b, 0, none⟩ with
  | some (.string r) => r.size
  | _ => 0
theorem szAt_box {W : World} {b : Nat} {t : TypeId} {r : ByteArray} (h : Boxed W b t (.string r)) : szAt b W = r.size := by unfold szAt; rw [h.cell]

set_option maxRecDepth 100000 in
set_option maxHeartbeats 1000000 in
theorem seq1_in (n : Nat) (hn : 1 ≤ n) (l z B : Nat) (s : ByteArray) (hs : s.size ≤ 1000) (J Jx : List Row → World → Prop) (hJ : AbC B z J)
    (hY : ∀ pre x W, J pre W → pre.length < 1002 → YieldAt Fence.wide (n - 1) Tryd.prog l (encR x) W fun e W' =>
      (e = .returned (.bool true) ∧ J (pre ++ [x]) W' ∧ KeepB z W W') ∨ (e = .returned (.bool false) ∧ Jx (pre ++ [x]) W'))
    (W : World) (b0 : Boxed W z 9 (.string s)) (b1 : Boxed W (z + 1) 9 (.string ⟨#[44]⟩)) (b2 : Boxed W (z + 2) 3 (.int .i64 0)) (h0 : J [] W) :
    CallsIn Fence.wide n Tryd.prog 51 #[.func (.yield l) #[] #[], .pointer (some ⟨z + 1, 0, none⟩), .pointer (some ⟨z, 0, none⟩), .pointer (some ⟨z + 2, 0, none⟩)] W fun e W' => (∃ v, e = .returned v) ∧
      ((∃ ys : List Row, ys.map (·.1) = rowsC s ∧ J ys W') ∨ (∃ pre : List Row, pre.map (·.1) <+: rowsC s ∧ Jx pre W')) := by
  have hall := (rowsC_pos s).2
  have hN : (rowsC s).length < 1002 := by omega
  clear hall
  have hidx := hide (fun (r : ByteArray) (V : World) => Tryd.strings_Index_one r 44 V)
  obtain ⟨RS, hRS⟩ : ∃ RS, RS = rowsC s := ⟨_, rfl⟩
  rw [← hRS] at hN ⊢
  have hrs1 : Hid (([] : List Row).map (·.1) ++ rowsC s = RS) := by show _ = _; rw [hRS]; simp
  clear hRS
  have c0 := b0.cell
  have c1 := b1.cell
  have c2 := b2.cell
  refine callsIn_of_wp Tryd.func51 rfl trivial ?_ rfl
  simp only [Tryd.ntmps51, List.size_toArray, List.length_cons, List.length_nil, Nat.reduceAdd, Nat.reduceSub, Array.replicate_succ, Array.replicate_zero, List.push_toArray, List.append_toArray, List.nil_append, List.cons_append]
  gi_wp2
  gi_loopw [] (fun wr => ∃ (pre : List Row) (r : ByteArray), r.size ≤ 1000 ∧ Boxed wr z 9 (.string r) ∧ Boxed wr (z + 1) 9 (.string ⟨#[44]⟩) ∧ Boxed wr (z + 2) 3 (.int .i64 0) ∧ Hid (pre.map (·.1) ++ rowsC r = RS) ∧ J pre wr) (fun wr => szAt z wr)
  case atStart => exact ⟨[], s, hs, b0, b1, b2, hrs1, h0⟩
  case round =>
    clear b0 b1 b2 c0 c1 c2 hrs1 h0
    obtain ⟨pre, r, hr, b0, b1, b2, hL, hJs⟩ := hrel
    have hpl : pre.length < 1002 := by
      have h1 := congrArg List.length hL.out
      have h2 := (rowsC_pos r).1
      rw [List.length_append, List.length_map] at h1
      omega
    have hm := szAt_box b0
    have c0 := b0.cell
    have c1 := b1.cell
    have c2 := b2.cell
    rcases byte_cases r.data.toList 44 with hi | ⟨i, hi⟩
    · have hI := hide (fun V => hidx.out r V)
      rw [hi] at hI
      have hres : Hid ((pre ++ [(⟨r, hr⟩ : Row)]).map (·.1) = RS) := by show _ = _; rw [← hL.out, rowsC_none hi, List.map_append]; rfl
      obtain ⟨fn, tmps, assign, body, hy, hR⟩ := hY pre ⟨r, hr⟩ wr hJs hpl
      dsimp only [encR] at hy
      clear hL hi hpl
      gi_wp2_with (refine ⟨trivial, ?_⟩; gi_at_call 53; refine (callsIn_wide.2 (hI.out _)).mono ?_; rintro e w' ⟨rfl, rfl⟩)
      refine hR.mono ?_
      rintro e W3 (⟨rfl, hJ3, hk3⟩ | ⟨rfl, hJx3⟩)
      · gi_wp2
        go_end0
        exact ⟨⟨_, rfl⟩, .inl ⟨_, hres.out, hJ3⟩⟩
      · gi_wp2
        go_end0
        exact ⟨⟨_, rfl⟩, .inr ⟨_, by rw [hres.out]; exact List.prefix_refl _, hJx3⟩⟩
    · have hI := hide (fun V => hidx.out r V)
      rw [hi] at hI
      obtain ⟨hi1, hrows⟩ := rowsC_some hi
      have hx1 : (r.extract 0 i).size ≤ 1000 := by rw [ByteArray.size_extract]; omega
      have hx2 : (r.extract (i + 1) r.size).size = r.size - (i + 1) := by rw [ByteArray.size_extract]; omega
      have hres : Hid ((pre ++ [(⟨r.extract 0 i, hx1⟩ : Row)]).map (·.1) ++ rowsC (r.extract (i + 1) r.size) = RS) := by show _ = _; rw [← hL.out, hrows, List.map_append, List.append_assoc]; rfl
      have hpre : Hid ((pre ++ [(⟨r.extract 0 i, hx1⟩ : Row)]).map (·.1) <+: RS) := ⟨_, hres.out⟩
      have hx3 : (r.extract (i + 1) r.size).size ≤ 1000 := by omega
      obtain ⟨fn, tmps, assign, body, hy, hR⟩ := hY pre ⟨r.extract 0 i, hx1⟩ wr hJs hpl
      dsimp only [encR] at hy
      have hx2 := hide hx2
      have hrows := hide hrows
      have hm := hide hm
      clear hL hi hpl
      gi_wp2_with (refine ⟨trivial, ?_⟩; gi_at_call 53; refine (callsIn_wide.2 (hI.out _)).mono ?_; rintro e w' ⟨rfl, rfl⟩)
      refine hR.mono ?_
      rintro e W3 (⟨rfl, hJ3, hk3⟩ | ⟨rfl, hJx3⟩)
      · have d0 : Boxed W3 z 9 (.string r) := hk3.box (Nat.le_refl _) (by omega) b0
        have d1 : Boxed W3 (z + 1) 9 (.string ⟨#[44]⟩) := hk3.box (by omega) (by omega) b1
        have d2 : Boxed W3 (z + 2) 3 (.int .i64 0) := hk3.box (by omega) (by omega) b2
        have e0 := d0.cell
        have e1 := d1.cell
        have f0 := d0.frozen
        have hJ4 := hJ _ _ _ _ hJ3 (grownBy_setCell' W3 z (.string (r.extract (i + 1) r.size))) (fun r e => by cases e; exact .inl rfl)
        have g0 := d0.set (.string (r.extract (i + 1) r.size))
        have g1 := d1.other (B' := z) (by omega) (.string (r.extract (i + 1) r.size))
        have g2 := d2.other (B' := z) (by omega) (.string (r.extract (i + 1) r.size))
        have hm2 := hide (szAt_box g0)
        have hJ4 := hide hJ4
        gi_wp2
        go_roundw
        case rel => exact ⟨_, _, hx3, g0, g1, g2, hres, hJ4.out⟩
        case measure => rw [hm2.out, hm.out, hx2.out]; omega
      · gi_wp2
        refine bodyPost_ret (results_none rfl _ _ _) rfl ?_
        exact ⟨⟨_, rfl⟩, .inr ⟨_, hpre.out, hJx3⟩⟩
end Go.Proofs.YtlnbglpddpgooaaDoor

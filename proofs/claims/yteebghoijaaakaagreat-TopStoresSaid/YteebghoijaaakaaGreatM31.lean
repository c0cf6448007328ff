/- Part 31 of the proof: texts joined by this repo's tools/merge2.py (ShtE ShtF). By the prover of this repo. -/
import Derived.Test.YteebghoijaaakaaGreatM30
import Derived.Test.YteebghoijaaakaaGreatM28
import Derived.Test.YteebghoijaaakaaGreatM6
set_option linter.unusedVariables false
set_option linter.unusedSimpArgs false
/- The walk of sheet.three: the three numbers of a line. By the prover of this repo. -/
namespace Go.Proofs.YteebghoijaaakaaGreat
namespace SH
open Go.RowKit
open WirM

/-- Results out of a row and a cell. -/
theorem results_row_cell {P : Program} {fn : Func} {p q : Tmp} {ty uy : TypeId} (h : fn.results = #[.cell p ty, .cell q uy]) (tmps : Array Value) (w : World) (g : Nat) (t : TypeId) (cs : Array Value) (fr : Nat × Nat) (d : TypeDesc) {b : Addr} {u : Value}
    (hp : tmps[p]?.getD undef = .pointer (some ⟨g, 0, none⟩)) (hg : w.heap[g]? = some (.cells cs t fr))
    (hu : P.underlying ty = some d) (hd : (match d with | .struct _ | .array _ _ => true | _ => false) = true) (hi : (P.info? ty).map (·.size) = some cs.size)
    (hq : tmps[q]?.getD undef = .pointer (some b)) (i2 : (isAgg uy).run P w = .ok false w) (hb : w.cell? b = some u) :
    (results fn tmps).run P w = .ok (.tuple #[.agg cs, u]) w := by
  have h2 : (loadVar uy b).run P w = .ok u w := by simp [go_sem, i2, hb]
  have h1 := run_loadVar_row w g t ty cs fr d hg hu hd hi
  simp only [results, h]
  simp [Sem.run_bind, hp, hq, asAddr, Result.andThen, h1, h2]
/-- What three keeps: the numbers, whether all is right, the text that is left, what stands ahead of each. -/
structure T3 (w wr : World) (ba : Nat) (P : Array Value) (a0 a1 a2 : Int) (s : List UInt8) : Prop where
  arr : Blk wr w.heap.size 212 #[.int .i64 a0, .int .i64 a1, .int .i64 a2]
  ok : Blk wr (w.heap.size + 1) 4 #[.bool true]
  lf : Blk wr (w.heap.size + 1 + 1) 9 #[.string (str s)]
  ah : Blk wr ba 9 P
  bel : Below w.heap.size w wr
theorem T3.next {w wr : World} {ba : Nat} {P : Array Value} {a0 a1 a2 : Int} {s : List UInt8} (h : T3 w wr ba P a0 a1 a2 s) (hb : ba < w.heap.size) (r : List UInt8) : T3 w ((wr.setCell ⟨w.heap.size + 1, 0, none⟩ (.bool true)).setCell ⟨w.heap.size + 1 + 1, 0, none⟩ (.string (str r))) ba P a0 a1 a2 r :=
  ⟨(h.arr.off (p := ⟨w.heap.size + 1, 0, none⟩) (by show w.heap.size ≠ w.heap.size + 1; omega) _).off (p := ⟨w.heap.size + 1 + 1, 0, none⟩) (by show w.heap.size ≠ w.heap.size + 1 + 1; omega) _,
    by have := (h.ok.set 0 (.bool true)).off (p := ⟨w.heap.size + 1 + 1, 0, none⟩) (by show w.heap.size + 1 ≠ w.heap.size + 1 + 1; omega) (.string (str r)); simpa using this,
    by have := (h.lf.off (p := ⟨w.heap.size + 1, 0, none⟩) (by show w.heap.size + 1 + 1 ≠ w.heap.size + 1; omega) (.bool true)).set 0 (.string (str r)); simpa using this,
    (h.ah.off (p := ⟨w.heap.size + 1, 0, none⟩) (by show ba ≠ w.heap.size + 1; omega) _).off (p := ⟨w.heap.size + 1 + 1, 0, none⟩) (by show ba ≠ w.heap.size + 1 + 1; omega) _,
    (h.bel.setCell (p := ⟨w.heap.size + 1, 0, none⟩) (by show w.heap.size ≤ w.heap.size + 1; omega) _).setCell (p := ⟨w.heap.size + 1 + 1, 0, none⟩) (by show w.heap.size ≤ w.heap.size + 1 + 1; omega) _⟩
set_option maxRecDepth 100000 in
set_option maxHeartbeats 2000000 in
theorem three_c (ba c : Nat) (p0 p1 p2 : List UInt8) (n0 n1 n2 : Nat) (w : World) (hb : Blk w ba 9 #[.string (str p0), .string (str p1), .string (str p2)]) (h0 : n0 ≤ 9223372036854775807) (h1 : n1 ≤ 9223372036854775807) (h2 : n2 ≤ 9223372036854775807)
    (hr0 : NoDig (p1 ++ (digF n1 ++ (p2 ++ (digF n2 ++ []))))) (hr1 : NoDig (p2 ++ (digF n2 ++ []))) (hs : (line3 p0 p1 p2 n0 n1 n2).length ≤ 1000000) :
    Calls Tryz.prog 160 #[.string (str (line3 p0 p1 p2 n0 n1 n2)), .slice (some ⟨ba, 0, none⟩) 3 c] w fun e w' => e = .returned (.tuple #[.agg #[.int .i64 n0, .int .i64 n1, .int .i64 n2], .bool true]) ∧ Below w.heap.size w w' := by
  have hba := hb.lt
  obtain ⟨P, hP⟩ : ∃ P : Array Value, P = #[.string (str p0), .string (str p1), .string (str p2)] := ⟨_, rfl⟩
  rw [← hP] at hb
  have hl0 : (line3 p0 p1 p2 n0 n1 n2).length = p0.length + (digF n0 ++ (p1 ++ (digF n1 ++ (p2 ++ (digF n2 ++ []))))).length := by unfold line3; rw [List.length_append]
  obtain ⟨s1, hs1⟩ : ∃ s1, p1 ++ (digF n1 ++ (p2 ++ (digF n2 ++ []))) = s1 := ⟨_, rfl⟩
  obtain ⟨s2, hs2⟩ : ∃ s2, p2 ++ (digF n2 ++ []) = s2 := ⟨_, rfl⟩
  have hL : line3 p0 p1 p2 n0 n1 n2 = p0 ++ (digF n0 ++ s1) := by rw [← hs1]; rfl
  rw [hs2] at hs1 hr1
  rw [hs2, hs1] at hr0 hl0
  have z1 : s1.length = p1.length + (digF n1 ++ s2).length := by rw [← hs1, List.length_append]
  have z2 : s2.length = p2.length + (digF n2 ++ []).length := by rw [← hs2, List.length_append]
  rw [List.length_append] at hl0 z1 z2
  have hst : T3 w (((w.alloc (.cells #[.int .i64 0, .int .i64 0, .int .i64 0] 212)).alloc (.cells #[.bool true] 4)).alloc (.cells #[.string (str (line3 p0 p1 p2 n0 n1 n2))] 9)) ba P 0 0 0 (line3 p0 p1 p2 n0 n1 n2) :=
    ⟨((Blk.made w _ _).alloc _).alloc _, (Blk.made_at _ _ _ (by simp)).alloc _, Blk.made_at _ _ _ (by simp), hb.kept (balloc (balloc (balloc0 _ _) _) _), balloc (balloc (balloc0 _ _) _) _⟩
  generalize line3 p0 p1 p2 n0 n1 n2 = LL at *
  have hstart := hide hst
  replace hL := hide hL
  replace hs1 := hide hs1
  replace hs2 := hide hs2
  have hCl := hide (fun (n : Nat) (p r : List UInt8) (W : World) (hb : Blk W (w.heap.size + 1 + 1) 9 #[.string (str (p ++ (digF n ++ r)))]) (ho : Blk W (w.heap.size + 1) 4 #[.bool true]) (hn : n ≤ 9223372036854775807) (hr : NoDig r) (hs : (digF n ++ r).length ≤ 1000000000) => three1_c (w.heap.size + 1 + 1) (w.heap.size + 1) n p r W hb ho (by omega) hn hr hs)
  clear hst hb
  go_enter Tryz.func160, Tryz.ntmps160
  go_wp2_with fail
  go_loopw [14] (fun kv wr => ∃ (i : Nat), kv = .int .i64 i ∧ ((i = 0 ∧ Hid (T3 w wr ba P 0 0 0 (p0 ++ (digF n0 ++ s1)))) ∨ (i = 1 ∧ Hid (T3 w wr ba P n0 0 0 (p1 ++ (digF n1 ++ s2)))) ∨ (i = 2 ∧ Hid (T3 w wr ba P n0 n1 0 (p2 ++ (digF n2 ++ [])))) ∨ (i = 3 ∧ Hid (T3 w wr ba P n0 n1 n2 [])))) (fun kv _ => 3 - (intOf kv).toNat)
  case atStart => exact ⟨0, rfl, .inl ⟨rfl, by rw [← hL.out]; exact hstart.out⟩⟩
  case round =>
    obtain ⟨i, rfl, hw⟩ := hrel
    clear hstart
    rcases hw with ⟨rfl, ht⟩ | ⟨rfl, ht⟩ | ⟨rfl, ht⟩ | ⟨rfl, ht⟩
    · have hC1 := hide (hCl.out n0 p0 s1 wr ht.out.lf ht.out.ok h0 hr0 (by rw [List.length_append]; first | omega | (simp; omega)))
      have e1 : wr.cell? ⟨ba, 0, none⟩ = some (.string (str p0)) := by rw [ht.out.ah.cell, hP]; rfl
      have e2 := ht.out.ah.lt
      have e3 := ht.out.lf.lt
      have hn2 := hide (ht.out.next hba s1)
      clear hP
      go_wp2_with fail
      refine Calls.mono hC1.out ?_
      rintro e w2 ⟨rfl, rfl⟩
      generalize (wr.setCell ⟨w.heap.size + 1, 0, none⟩ (.bool true)).setCell ⟨w.heap.size + 1 + 1, 0, none⟩ (.string (str s1)) = W2 at *
      have g1 := hn2.out.arr.lt
      have g2 := hn2.out.arr.cell 0
      have g3 := hn2.out.arr.free 0
      have hq : Hid (T3 w (W2.setCell ⟨w.heap.size, 0, none⟩ (.int .i64 n0)) ba P (n0 : Int) 0 0 (p1 ++ (digF n1 ++ s2))) :=
        ⟨by have := hn2.out.arr.set 0 (.int .i64 n0); simpa using this, hn2.out.ok.off (p := ⟨w.heap.size, 0, none⟩) (by show w.heap.size + 1 ≠ w.heap.size; omega) _, by have := hn2.out.lf.off (p := ⟨w.heap.size, 0, none⟩) (by show w.heap.size + 1 + 1 ≠ w.heap.size; omega) (.int .i64 n0); rw [hs1.out]; exact this, hn2.out.ah.off (p := ⟨w.heap.size, 0, none⟩) (by show ba ≠ w.heap.size; omega) _, hn2.out.bel.setCell (p := ⟨w.heap.size, 0, none⟩) (Nat.le_refl _) _⟩
      clear hC1 hn2
      go_wp2_with fail
      go_roundw
      case rel => exact ⟨1, by go_num, .inr (.inl ⟨rfl, hq.out⟩)⟩
      case measure => simp [intOf]
    · have hC1 := hide (hCl.out n1 p1 s2 wr ht.out.lf ht.out.ok h1 hr1 (by rw [List.length_append]; first | omega | (simp; omega)))
      have e1 : wr.cell? ⟨ba, 1, none⟩ = some (.string (str p1)) := by rw [ht.out.ah.cell, hP]; rfl
      have e2 := ht.out.ah.lt
      have e3 := ht.out.lf.lt
      have hn2 := hide (ht.out.next hba s2)
      clear hP
      go_wp2_with fail
      refine Calls.mono hC1.out ?_
      rintro e w2 ⟨rfl, rfl⟩
      generalize (wr.setCell ⟨w.heap.size + 1, 0, none⟩ (.bool true)).setCell ⟨w.heap.size + 1 + 1, 0, none⟩ (.string (str s2)) = W2 at *
      have g1 := hn2.out.arr.lt
      have g2 := hn2.out.arr.cell 1
      have g3 := hn2.out.arr.free 1
      have hq : Hid (T3 w (W2.setCell ⟨w.heap.size, 1, none⟩ (.int .i64 n1)) ba P (n0 : Int) (n1 : Int) 0 (p2 ++ (digF n2 ++ []))) :=
        ⟨by have := hn2.out.arr.set 1 (.int .i64 n1); simpa using this, hn2.out.ok.off (p := ⟨w.heap.size, 1, none⟩) (by show w.heap.size + 1 ≠ w.heap.size; omega) _, by have := hn2.out.lf.off (p := ⟨w.heap.size, 1, none⟩) (by show w.heap.size + 1 + 1 ≠ w.heap.size; omega) (.int .i64 n1); rw [hs2.out]; exact this, hn2.out.ah.off (p := ⟨w.heap.size, 1, none⟩) (by show ba ≠ w.heap.size; omega) _, hn2.out.bel.setCell (p := ⟨w.heap.size, 1, none⟩) (Nat.le_refl _) _⟩
      clear hC1 hn2
      go_wp2_with fail
      go_roundw
      case rel => exact ⟨2, by go_num, .inr (.inr (.inl ⟨rfl, hq.out⟩))⟩
      case measure => simp [intOf]
    · have hC1 := hide (hCl.out n2 p2 [] wr ht.out.lf ht.out.ok h2 trivial (by rw [List.length_append]; first | omega | (simp; omega)))
      have e1 : wr.cell? ⟨ba, 2, none⟩ = some (.string (str p2)) := by rw [ht.out.ah.cell, hP]; rfl
      have e2 := ht.out.ah.lt
      have e3 := ht.out.lf.lt
      have hn2 := hide (ht.out.next hba [])
      clear hP
      go_wp2_with fail
      refine Calls.mono hC1.out ?_
      rintro e w2 ⟨rfl, rfl⟩
      generalize (wr.setCell ⟨w.heap.size + 1, 0, none⟩ (.bool true)).setCell ⟨w.heap.size + 1 + 1, 0, none⟩ (.string (str [])) = W2 at *
      have g1 := hn2.out.arr.lt
      have g2 := hn2.out.arr.cell 2
      have g3 := hn2.out.arr.free 2
      have hq : Hid (T3 w (W2.setCell ⟨w.heap.size, 2, none⟩ (.int .i64 n2)) ba P (n0 : Int) (n1 : Int) (n2 : Int) ([])) :=
        ⟨by have := hn2.out.arr.set 2 (.int .i64 n2); simpa using this, hn2.out.ok.off (p := ⟨w.heap.size, 2, none⟩) (by show w.heap.size + 1 ≠ w.heap.size; omega) _, by have := hn2.out.lf.off (p := ⟨w.heap.size, 2, none⟩) (by show w.heap.size + 1 + 1 ≠ w.heap.size; omega) (.int .i64 n2); rw [show ([] : List UInt8) = [] from rfl]; exact this, hn2.out.ah.off (p := ⟨w.heap.size, 2, none⟩) (by show ba ≠ w.heap.size; omega) _, hn2.out.bel.setCell (p := ⟨w.heap.size, 2, none⟩) (Nat.le_refl _) _⟩
      clear hC1 hn2
      go_wp2_with fail
      go_roundw
      case rel => exact ⟨3, by go_num, .inr (.inr (.inr ⟨rfl, hq.out⟩))⟩
      case measure => simp [intOf]
    · have f0 : wr.cell? ⟨w.heap.size, 0, none⟩ = some (.int .i64 n0) := ht.out.arr.cell 0
      have f1 : wr.cell? ⟨w.heap.size, 1, none⟩ = some (.int .i64 n1) := ht.out.arr.cell 1
      have f2 : wr.cell? ⟨w.heap.size, 2, none⟩ = some (.int .i64 n2) := ht.out.arr.cell 2
      have f3 : wr.cell? ⟨w.heap.size + 1, 0, none⟩ = some (.bool true) := ht.out.ok.cell 0
      have f4 : wr.cell? ⟨w.heap.size + 1 + 1, 0, none⟩ = some (.string ⟨#[]⟩) := ht.out.lf.cell 0
      have f5 := ht.out.arr.lt
      have f6 := ht.out.ok.lt
      have f7 := ht.out.lf.lt
      have f8 := ht.out.arr.free 0
      have f10 := ht.out.arr.free 1
      have f11 := ht.out.arr.free 2
      have f9 := ht.out.ok.free 0
      have f12 : ((⟨#[]⟩ : ByteArray).toList == []) = true := by rw [ByteArray.toList_eq]; rfl
      clear hP
      have g1 : Blk ((((wr.setCell ⟨w.heap.size, 0, none⟩ (.int .i64 n0)).setCell ⟨w.heap.size, 1, none⟩ (.int .i64 n1)).setCell ⟨w.heap.size, 2, none⟩ (.int .i64 n2)).setCell ⟨w.heap.size + 1, 0, none⟩ (.bool true)) w.heap.size 212 #[.int .i64 n0, .int .i64 n1, .int .i64 n2] := by
        have := (((ht.out.arr.set 0 (.int .i64 n0)).set 1 (.int .i64 n1)).set 2 (.int .i64 n2)).off (p := ⟨w.heap.size + 1, 0, none⟩) (by show w.heap.size ≠ w.heap.size + 1; omega) (.bool true)
        simpa using this
      have g2 : Blk ((((wr.setCell ⟨w.heap.size, 0, none⟩ (.int .i64 n0)).setCell ⟨w.heap.size, 1, none⟩ (.int .i64 n1)).setCell ⟨w.heap.size, 2, none⟩ (.int .i64 n2)).setCell ⟨w.heap.size + 1, 0, none⟩ (.bool true)) (w.heap.size + 1) 4 #[.bool true] := by
        have := (((ht.out.ok.off (p := ⟨w.heap.size, 0, none⟩) (by show w.heap.size + 1 ≠ w.heap.size; omega) (.int .i64 n0)).off (p := ⟨w.heap.size, 1, none⟩) (by show w.heap.size + 1 ≠ w.heap.size; omega) (.int .i64 n1)).off (p := ⟨w.heap.size, 2, none⟩) (by show w.heap.size + 1 ≠ w.heap.size; omega) (.int .i64 n2)).set 0 (.bool true)
        simpa using this
      have g3 := (((ht.out.bel.setCell (p := ⟨w.heap.size, 0, none⟩) (Nat.le_refl _) (.int .i64 n0)).setCell (p := ⟨w.heap.size, 1, none⟩) (Nat.le_refl _) (.int .i64 n1)).setCell (p := ⟨w.heap.size, 2, none⟩) (Nat.le_refl _) (.int .i64 n2)).setCell (p := ⟨w.heap.size + 1, 0, none⟩) (by show w.heap.size ≤ w.heap.size + 1; omega) (.bool true)
      have g1 := hide g1
      have g2 := hide g2
      have g3 := hide g3
      go_wp2_with fail
      go_region
      go_wp2_with fail
      refine bodyPost_ret (results_row_cell Tryz.results160 _ _ w.heap.size 212 #[.int .i64 n0, .int .i64 n1, .int .i64 n2] (0, 0) _ rfl g1.out Tryz.underlying212 rfl (by kernel_rfl) rfl (by kernel_rfl) (g2.out.cell 0)) rfl ⟨rfl, ?_⟩
      exact below_drewN g3.out 1
end SH
end Go.Proofs.YteebghoijaaakaaGreat
/- The walk of sheet.reading's head: the first line. By the prover of this repo. -/
namespace Go.Proofs.YteebghoijaaakaaGreat
namespace SH
open Go.RowKit
open TwigM RollM StoM VaryM WirM

theorem headL_len {L K S : Int} (h1 : L ≤ 9223372036854775807) (h2 : K ≤ 9223372036854775807) (h3 : S ≤ 9223372036854775807) : (headL L K S).length ≤ 100 :=
  line3_len (by omega) (by omega) (by omega) ⟨by decide, by decide, by decide⟩
set_option maxRecDepth 100000 in
set_option maxHeartbeats 2000000 in
theorem head_c (g : Nat) (L K S : Int) (w : World) (hb : Blk w g 155 #[.int .i64 0, .int .i64 0, .int .i64 0, .int .i64 0, .slice none 0 0]) (hL1 : 1 ≤ L) (hL2 : L ≤ 48) (hK1 : 1 ≤ K) (hK2 : K ≤ 1048576) (hS1 : 0 ≤ S) (hS2 : S ≤ 72057594037927935) :
    Calls Tryz.prog 104 #[.pointer (some ⟨g, 0, none⟩), .string (str (headL L K S))] w fun e w' => e = .returned (.bool true) ∧ Blk w' g 155 #[.int .i64 L, .int .i64 K, .int .i64 0, .int .i64 S, .slice none 0 0] ∧ Turn (fun j => j = g) w w' := by
  have hlen := headL_len (L := L) (K := K) (S := S) (by omega) (by omega) (by omega)
  have hT := fun (ba : Nat) (W : World) (hW : Blk W ba 9 #[.string (str sDigest.data.toList), .string (str [32]), .string (str [32])]) => three_c ba 3 sDigest.data.toList [32] [32] L.toNat K.toNat S.toNat W hW (by omega) (by omega) (by omega) (noDig_cons (c := 32) (.inl (by decide))) (noDig_cons (c := 32) (.inl (by decide))) (by unfold headL at hlen; omega)
  have hR := hide (fun W => right_yes L 1 W hL1 hL2 (by omega) (by have := pw_pos L; omega))
  rw [show ((L.toNat : Nat) : Int) = L by omega, show ((K.toNat : Nat) : Int) = K by omega, show ((S.toNat : Nat) : Int) = S by omega] at hT
  replace hT := hide hT
  have hlt := hb.lt
  clear hlen
  generalize hLL : line3 sDigest.data.toList [32] [32] L.toNat K.toNat S.toNat = LL at hT
  rw [show headL L K S = LL from hLL]
  clear hLL
  go_enter Tryz.func104, Tryz.ntmps104
  go_wp2_with fail
  refine Calls.mono (hT.out _ _ (Blk.made w 9 _)) ?_
  rintro e w1 ⟨rfl, hb1⟩
  have b0 := balloc0 w (.cells #[.string ⟨#[100, 105, 103, 101, 115, 116, 32]⟩, .string ⟨#[32]⟩, .string ⟨#[32]⟩] 9)
  have b2 : Below w.heap.size w w1 := b0.trans (hb1.mono (by simp))
  have bb := hide (hb.kept b2)
  have hz := b2.size
  have bn := hide (Blk.made w1 212 #[.int .i64 L, .int .i64 K, .int .i64 S])
  have b3 := hide (balloc b2 (.cells #[.int .i64 L, .int .i64 K, .int .i64 S] 212))
  have bg := hide (hb.kept b3.out)
  go_wp2_with fail
  obtain ⟨nb, hnb⟩ : ∃ nb, w1.heap.size = nb := ⟨_, rfl⟩
  generalize (w1.alloc (.cells #[.int .i64 L, .int .i64 K, .int .i64 S] 212)) = W2 at *
  rw [hnb] at bn ⊢
  have hne : ¬ g = nb := by omega
  have hne2 : ¬ nb = g := by omega
  have c0 : W2.cell? ⟨nb, 0, none⟩ = some (.int .i64 L) := bn.out.cell 0
  have c1 : W2.cell? ⟨nb, 1, none⟩ = some (.int .i64 K) := bn.out.cell 1
  have c2 : W2.cell? ⟨nb, 2, none⟩ = some (.int .i64 S) := bn.out.cell 2
  have c3 := bn.out.lt
  have c4 := bg.out.lt
  have d0 : W2.cell? ⟨g, 0, none⟩ = some (.int .i64 0) := bg.out.cell 0
  have d1 : W2.cell? ⟨g, 1, none⟩ = some (.int .i64 0) := bg.out.cell 1
  have d3 : W2.cell? ⟨g, 3, none⟩ = some (.int .i64 0) := bg.out.cell 3
  have c5 := bg.out.free 0
  have c6 := bg.out.free 1
  have c7 := bg.out.free 3
  clear hb1 b2 hnb hz
  go_region
  have t1 := hide (((((Below.turn b3.out fun j => j = g).trans (Turn.setCell W2 (fun j => j = g) ⟨g, 0, none⟩ (.int .i64 L) rfl) fun _ _ q => q).trans (Turn.setCell _ (fun j => j = g) ⟨g, 1, none⟩ (.int .i64 K) rfl) fun _ _ q => q).trans (Turn.setCell _ (fun j => j = g) ⟨g, 3, none⟩ (.int .i64 S) rfl) fun _ _ q => q))
  have bq : Hid (Blk (((W2.setCell ⟨g, 0, none⟩ (.int .i64 L)).setCell ⟨g, 1, none⟩ (.int .i64 K)).setCell ⟨g, 3, none⟩ (.int .i64 S)) g 155 #[.int .i64 L, .int .i64 K, .int .i64 0, .int .i64 S, .slice none 0 0]) := by
    have := ((bg.out.set 0 (.int .i64 L)).set 1 (.int .i64 K)).set 3 (.int .i64 S)
    show Blk _ _ _ _
    simpa using this
  clear bg bn b3 c0 c1 c2 c3 c4 c5 c6 c7 d0 d1 d3
  generalize ((W2.setCell ⟨g, 0, none⟩ (.int .i64 L)).setCell ⟨g, 1, none⟩ (.int .i64 K)).setCell ⟨g, 3, none⟩ (.int .i64 S) = W3 at *
  have c0 : W3.cell? ⟨g, 0, none⟩ = some (.int .i64 L) := bq.out.cell 0
  have c1 : W3.cell? ⟨g, 1, none⟩ = some (.int .i64 K) := bq.out.cell 1
  have c2 : W3.cell? ⟨g, 3, none⟩ = some (.int .i64 S) := bq.out.cell 3
  have c3 := bq.out.lt
  go_wp2_with fail
  refine Calls.mono (hR.out _) ?_
  rintro e w5 ⟨rfl, rfl⟩
  go_wp2_with fail
  go_ret
  exact ⟨rfl, bq.out.drewN 1, t1.out.drewN 1⟩
end SH
end Go.Proofs.YteebghoijaaakaaGreat

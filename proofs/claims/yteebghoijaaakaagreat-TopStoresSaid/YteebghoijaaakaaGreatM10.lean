/- Part 10 of the proof: texts joined by this repo's tools/merge2.py (Dens Prb PrbW PrbN PrbA PrbT). By the prover of this repo. -/
import Derived.Test.YteebghoijaaakaaGreatM4
import Derived.Test.YteebghoijaaakaaGreatM9
import Derived.Test.YteebghoijaaakaaGreatM2
import Derived.Laws.MakeOwn
import Derived.WalkMore
import Derived.BigRegion
set_option linter.unusedVariables false
set_option linter.unusedSimpArgs false
/- The walks of layer 7: the array with a place for each node. By the prover of this repo. -/
namespace Go.Proofs.YteebghoijaaakaaGreat
open Go.RowKit
open TwigM RollM StoM

/-- All blocks but some are as they were. -/
structure Turn (S : Nat → Prop) (w w' : World) : Prop where
  os : w'.os = w.os
  tape : w'.tape = w.tape
  output : w'.output = w.output
  size : w.heap.size ≤ w'.heap.size
  block : ∀ k, k < w.heap.size → ¬ S k → w'.heap[k]? = w.heap[k]?
section
variable {S T : Nat → Prop} {w w1 w2 : World}
theorem Turn.refl (S : Nat → Prop) (w : World) : Turn S w w := ⟨rfl, rfl, rfl, Nat.le_refl _, fun _ _ _ => rfl⟩
theorem Turn.trans (h : Turn S w w1) (k : Turn T w1 w2) (hs : ∀ j, j < w.heap.size → T j → S j) : Turn S w w2 :=
  ⟨k.os.trans h.os, k.tape.trans h.tape, k.output.trans h.output, Nat.le_trans h.size k.size, fun j hj hn => (k.block j (Nat.lt_of_lt_of_le hj h.size) fun e => hn (hs j hj e)).trans (h.block j hj hn)⟩
theorem Turn.more (h : Turn S w w1) (hs : ∀ j, j < w.heap.size → S j → T j) : Turn T w w1 :=
  ⟨h.os, h.tape, h.output, h.size, fun j hj hn => h.block j hj fun e => hn (hs j hj e)⟩
theorem Below.turn (h : Below w.heap.size w w1) (S : Nat → Prop) : Turn S w w1 := ⟨h.os, h.tape, h.output, h.size, fun j hj _ => h.block j hj⟩
theorem Turn.below (h : Turn S w w1) (B : Nat) (hB : B ≤ w.heap.size) (hs : ∀ j, j < B → ¬ S j) : Below B w w1 := ⟨h.os, h.tape, h.output, h.size, fun j hj => h.block j (Nat.lt_of_lt_of_le hj hB) (hs j hj)⟩
theorem Turn.setCell (w : World) (S : Nat → Prop) (a : Addr) (u : Value) (hs : S a.block) : Turn S w (w.setCell a u) :=
  ⟨rfl, rfl, rfl, by simp, fun k _ hn => Below.heap_setCell w a u k fun e => hn (by rw [e]; exact hs)⟩
theorem Turn.alloc (w : World) (S : Nat → Prop) (o : Obj) : Turn S w (w.alloc o) := Below.turn (balloc0 w o) S
theorem Turn.drewN (h : Turn S w w1) (n : Nat) : Turn S w (w1.drewN n) := ⟨h.os, h.tape, h.output, h.size, h.block⟩
theorem Blk.turned {g : Nat} {t : TypeId} {cs : Array Value} (h : Blk w g t cs) (k : Turn S w w1) (hn : ¬ S g) : Blk w1 g t cs := (k.block g h.lt hn).trans h
end

/-- The array's cells. -/
def denCs (L : Int) (l : List Nd) : Array Value := ((List.range (2 * pw L).toNat).map fun i : Nat => Value.int .i64 (wt i l)).toArray
theorem denCs_size (L : Int) (l : List Nd) : (denCs L l).size = (2 * pw L).toNat := by simp [denCs]
theorem denCs_get (L : Int) (l : List Nd) (i : Nat) (h : i < (2 * pw L).toNat) : (denCs L l)[i]? = some (.int .i64 (wt i l)) := by
  unfold denCs
  rw [List.getElem?_toArray, List.getElem?_map, List.getElem?_range h]; rfl
theorem denCs_set (L : Int) (l l' : List Nd) (i : Nat) (v : Int) (h : ∀ k : Nat, wt k l' = if i = k then v else wt k l) : (denCs L l).setIfInBounds i (.int .i64 v) = denCs L l' := by
  apply Array.ext_getElem?
  intro k
  rw [Array.getElem?_setIfInBounds, denCs_size]
  by_cases hk : k < (2 * pw L).toNat
  · rw [denCs_get L l' k hk, denCs_get L l k hk, h k]
    by_cases e : i = k
    · subst e; rw [if_pos rfl, if_pos rfl, if_pos hk]
    · rw [if_neg e, if_neg e]
  · rw [Array.getElem?_eq_none (by rw [denCs_size]; omega), Array.getElem?_eq_none (by rw [denCs_size]; omega)]
    split <;> (try split) <;> first | rfl | omega
/-- A store of an array, in block g; its array in block b. -/
structure DenAt (w : World) (g b : Nat) (L : Int) (l : List Nd) : Prop where
  blk : Blk w g 178 #[.int .i64 L, .int .i64 (l.length : Int), .int .i64 (sumL l), .slice (some ⟨b, 0, none⟩) (2 * pw L).toNat (2 * pw L).toNat]
  arr : Blk w b 3 (denCs L l)
  ne : b ≠ g
  l1 : 1 ≤ L
  l2 : L ≤ 16
theorem dense_new_no (L : Int) (w : World) (h : ¬ (1 ≤ L ∧ L ≤ 16)) : Calls Tryz.prog 78 #[.int .i64 L] w fun e w' => e = .returned (.tuple #[.pointer none, .int .i64 2]) ∧ w = w' := by
  by_cases h1 : 1 ≤ L
  · have h2 : 16 < L := by omega
    clear h
    go_enter Tryz.func78, Tryz.ntmps78
    go_wp2_with fail
    go_ret2
    exact ⟨rfl, rfl⟩
  · clear h
    go_enter Tryz.func78, Tryz.ntmps78
    go_wp2_with fail
    go_ret2
    exact ⟨rfl, rfl⟩
theorem make_ints (n : Int) (h0 : 0 ≤ n) (h1 : n ≤ 16777216) (V : World) : (Instr.makeSlice 22 (.int .i64 n) (.int .i64 n)).run Tryz.prog V = .ok (.slice (some ⟨V.heap.size, 0, none⟩) n.toNat n.toNat) (V.alloc (.cells (madeCells #[.int .i64 0] n.toNat) 3)) := by
  obtain ⟨i, hi, hz, hs, hb⟩ := info_parts (show (Tryz.prog.info? 3).map (fun i => (i.zero, i.size, i.bytes)) = some (some (.int .i64 0), 1, 8) by kernel_rfl)
  have h := run_make (P := Tryz.prog) V 22 3 i (.int .i64 0) Tryz.underlying22 hi hz .i64 .i64 n n h0 (Int.le_refl _) (by rw [hb]; omega) (by omega)
  rw [hs, Nat.mul_one] at h
  exact h
theorem made_den (L : Int) : madeCells #[.int .i64 0] (2 * pw L).toNat = denCs L [] := by
  apply Array.ext_getElem?
  intro k
  by_cases hk : k < (2 * pw L).toNat
  · rw [denCs_get L [] k hk]
    unfold madeCells
    simp [hk, Nat.mod_one, wt]
  · rw [Array.getElem?_eq_none (by rw [size_madeCells]; omega), Array.getElem?_eq_none (by rw [denCs_size]; omega)]
set_option maxRecDepth 100000 in
theorem dense_new (L : Int) (w : World) (h1 : 1 ≤ L) (h2 : L ≤ 16) : Calls Tryz.prog 78 #[.int .i64 L] w fun e w' =>
    ∃ g b, e = .returned (.tuple #[.pointer (some ⟨g, 0, none⟩), .int .i64 0]) ∧ DenAt w' g b L [] ∧ w.heap.size ≤ g ∧ w.heap.size ≤ b ∧ Below w.heap.size w w' := by
  have hp : (2 : Int) ^ L.toNat = pw L := rfl
  have hp1 := pw_pos L
  have hp2 : pw L ≤ pw 16 := pw_mono h2
  rw [show pw 16 = 65536 from rfl] at hp2
  have hmk := make_ints (2 * pw L) (by omega) (by omega) w
  rw [made_den] at hmk
  go_enter Tryz.func78, Tryz.ntmps78
  go_wp2_with fail
  go_ret2
  have hb0 := balloc0 w (.cells (denCs L []) 3)
  refine ⟨w.heap.size + 1, w.heap.size, rfl, ⟨Blk.made_at _ _ _ (by simp), (Blk.made w _ _).alloc _, by omega, h1, h2⟩, by omega, Nat.le_refl _, balloc hb0 _⟩
section
variable {w : World} {g b : Nat} {L : Int} {l : List Nd}
theorem DenAt.lt (h : DenAt w g b L l) : g < w.heap.size ∧ b < w.heap.size := ⟨h.blk.lt, h.arr.lt⟩
theorem DenAt.turned {w' : World} {S : Nat → Prop} (h : DenAt w g b L l) (k : Turn S w w') (h1 : ¬ S g) (h2 : ¬ S b) : DenAt w' g b L l := ⟨h.blk.turned k h1, h.arr.turned k h2, h.ne, h.l1, h.l2⟩
theorem DenAt.kept {w' : World} (h : DenAt w g b L l) (k : Below w.heap.size w w') : DenAt w' g b L l := ⟨h.blk.kept k, h.arr.kept k, h.ne, h.l1, h.l2⟩
theorem DenAt.cells (h : DenAt w g b L l) : w.cell? ⟨g, 0, none⟩ = some (.int .i64 L) ∧ w.cell? ⟨g, 1, none⟩ = some (.int .i64 (l.length : Int)) ∧ w.cell? ⟨g, 2, none⟩ = some (.int .i64 (sumL l)) ∧ w.cell? ⟨g, 3, none⟩ = some (.slice (some ⟨b, 0, none⟩) (2 * pw L).toNat (2 * pw L).toNat) ∧
    w.frozen? ⟨g, 1, none⟩ = false ∧ w.frozen? ⟨g, 2, none⟩ = false := ⟨h.blk.cell 0, h.blk.cell 1, h.blk.cell 2, h.blk.cell 3, h.blk.free 1, h.blk.free 2⟩
theorem DenAt.at (h : DenAt w g b L l) {id : Nat} (hi : (id : Int) < 2 * pw L) : w.cell? ⟨b, id, none⟩ = some (.int .i64 (wt id l)) ∧ w.frozen? ⟨b, id, none⟩ = false := by
  refine ⟨?_, h.arr.free id⟩
  rw [h.arr.cell id, denCs_get L l id (by omega)]
end
theorem wt_out {L : Int} {l : List Nd} (hu : InU L l) {id : Int} (h : ¬ (1 ≤ id ∧ id < 2 * pw L)) : wt id l = 0 :=
  wt_zero id l fun p hp e => h (by have := hu p hp; omega)
set_option maxRecDepth 100000 in
theorem dense_get (g b : Nat) (L id : Int) (l : List Nd) (w : World) (h : DenAt w g b L l) (hu : InU L l) (hid : id ≤ 9223372036854775807) :
    Calls Tryz.prog 83 #[.pointer (some ⟨g, 0, none⟩), .int .i64 id] w fun e w' => e = .returned (.int .i64 (wt id l)) ∧ w = w' := by
  obtain ⟨c0, _, _, c3, _, _⟩ := h.cells
  have hl1 := h.l1
  have hl2 := h.l2
  have hR := hide (fun W => right_c L id W)
  by_cases hr : 1 ≤ id ∧ id < 2 * pw L
  · have hrb : rightB L id = true := right_mk hl1 (by omega) hr.1 hr.2
    rw [hrb] at hR
    obtain ⟨n, rfl⟩ := Int.eq_ofNat_of_zero_le (show 0 ≤ id by omega)
    obtain ⟨cc, _⟩ := h.at hr.2
    have hn1 : (n : Int) < ((2 * pw L).toNat : Int) := by omega
    clear h
    generalize (2 * pw L).toNat = N at *
    go_enter Tryz.func83, Tryz.ntmps83
    go_wp2_with fail
    refine Calls.mono (hR.out _) ?_
    rintro e w1 ⟨rfl, rfl⟩
    go_wp2_with fail
    go_ret
    exact ⟨rfl, rfl⟩
  · have hrb : rightB L id = false := by rw [Bool.eq_false_iff]; intro k; have := right_iff.1 k; omega
    rw [hrb] at hR
    rw [wt_out hu hr]
    clear h
    go_enter Tryz.func83, Tryz.ntmps83
    go_wp2_with fail
    refine Calls.mono (hR.out _) ?_
    rintro e w1 ⟨rfl, rfl⟩
    go_wp2_with fail
    go_ret
    exact ⟨rfl, rfl⟩

/-- A node more, or none. -/
def addS (id c : Int) (l : List Nd) : List Nd := if c = 0 then l else put id c l
theorem wt_addS (k id c : Int) (l : List Nd) : wt k (addS id c l) = wt k l + if id = k then c else 0 := by
  unfold addS
  split
  · rename_i h; rw [h]; split <;> omega
  · exact wt_put k id c l
theorem sumL_addS (id c : Int) (l : List Nd) : sumL (addS id c l) = sumL l + c := by
  unfold addS
  split
  · omega
  · exact sumL_put id c l
theorem canon_addS {l : List Nd} (h : Canon l) {id c : Int} (hc : 0 ≤ c) : Canon (addS id c l) := by
  unfold addS
  split
  · exact h
  · exact canon_put h (by omega)
theorem inU_addS {L : Int} {l : List Nd} (h : InU L l) {id c : Int} (h1 : 1 ≤ id) (h2 : id < 2 * pw L) : InU L (addS id c l) := by
  unfold addS
  split
  · exact h
  · exact inU_put h h1 h2
theorem len_addS {l : List Nd} (h : Canon l) (id : Int) {c : Int} (hc : 0 ≤ c) : (addS id c l).length = l.length + if wt id l = 0 ∧ 0 < c then 1 else 0 := by
  unfold addS
  by_cases h0 : c = 0
  · rw [if_pos h0, if_neg (fun k => by omega)]; rfl
  · rw [if_neg h0, len_put h]
    by_cases hz : wt id l = 0
    · rw [if_pos hz, if_pos ⟨hz, by omega⟩]
    · rw [if_neg hz, if_neg (fun k => hz k.1)]
theorem del_none {l : List Nd} (h : Canon l) {id : Int} (hz : wt id l = 0) : del id l = l := by
  unfold del
  rw [List.filter_eq_self]
  intro p hp
  have h1 := wt_mem h hp
  have h2 := h.cnt p hp
  rw [decide_eq_true_eq]
  intro e
  rw [e] at h1
  omega
section
variable {w : World} {g b : Nat} {L : Int} {l : List Nd}
theorem DenAt.put (h : DenAt w g b L l) {id : Nat} {l' : List Nd} (hw : ∀ k : Nat, wt k l' = if id = k then wt id l' else wt k l) :
    DenAt (((w.setCell ⟨g, 1, none⟩ (.int .i64 (l'.length : Int))).setCell ⟨b, id, none⟩ (.int .i64 (wt id l'))).setCell ⟨g, 2, none⟩ (.int .i64 (sumL l'))) g b L l' := by
  have h1 := ((h.blk.set 1 (.int .i64 (l'.length : Int))).off (p := ⟨b, id, none⟩) (Ne.symm h.ne) (.int .i64 (wt id l'))).set 2 (.int .i64 (sumL l'))
  have h2 := ((h.arr.off (p := ⟨g, 1, none⟩) h.ne (.int .i64 (l'.length : Int))).set id (.int .i64 (wt id l'))).off (p := ⟨g, 2, none⟩) h.ne (.int .i64 (sumL l'))
  rw [denCs_set L l l' id (wt id l') hw] at h2
  exact ⟨by simpa using h1, h2, h.ne, h.l1, h.l2⟩
theorem DenAt.put2 (h : DenAt w g b L l) {id : Nat} {l' : List Nd} (hw : ∀ k : Nat, wt k l' = if id = k then wt id l' else wt k l) (hlen : l'.length = l.length) :
    DenAt ((w.setCell ⟨b, id, none⟩ (.int .i64 (wt id l'))).setCell ⟨g, 2, none⟩ (.int .i64 (sumL l'))) g b L l' := by
  have h1 := (h.blk.off (p := ⟨b, id, none⟩) (Ne.symm h.ne) (.int .i64 (wt id l'))).set 2 (.int .i64 (sumL l'))
  have h2 := (h.arr.set id (.int .i64 (wt id l'))).off (p := ⟨g, 2, none⟩) h.ne (.int .i64 (sumL l'))
  rw [denCs_set L l l' id (wt id l') hw] at h2
  rw [← hlen] at h1
  exact ⟨by simpa using h1, h2, h.ne, h.l1, h.l2⟩
theorem DenAt.cut (h : DenAt w g b L l) {id : Nat} {l' : List Nd} (hw : ∀ k : Nat, wt k l' = if id = k then wt id l' else wt k l) :
    DenAt (((w.setCell ⟨b, id, none⟩ (.int .i64 (wt id l'))).setCell ⟨g, 1, none⟩ (.int .i64 (l'.length : Int))).setCell ⟨g, 2, none⟩ (.int .i64 (sumL l'))) g b L l' := by
  have h1 := ((h.blk.off (p := ⟨b, id, none⟩) (Ne.symm h.ne) (.int .i64 (wt id l'))).set 1 (.int .i64 (l'.length : Int))).set 2 (.int .i64 (sumL l'))
  have h2 := ((h.arr.set id (.int .i64 (wt id l'))).off (p := ⟨g, 1, none⟩) h.ne (.int .i64 (l'.length : Int))).off (p := ⟨g, 2, none⟩) h.ne (.int .i64 (sumL l'))
  rw [denCs_set L l l' id (wt id l') hw] at h2
  exact ⟨by simpa using h1, h2, h.ne, h.l1, h.l2⟩
end
theorem turn2 (g b : Nat) (w : World) {x y : Addr} (u v : Value) (hx : x.block = g ∨ x.block = b) (hy : y.block = g ∨ y.block = b) : Turn (fun j => j = g ∨ j = b) w ((w.setCell x u).setCell y v) :=
  (Turn.setCell w _ x u hx).trans (Turn.setCell _ _ y v hy) fun _ _ h => h
theorem turn3 (g b : Nat) (w : World) {x y z : Addr} (u v t : Value) (hx : x.block = g ∨ x.block = b) (hy : y.block = g ∨ y.block = b) (hz : z.block = g ∨ z.block = b) : Turn (fun j => j = g ∨ j = b) w (((w.setCell x u).setCell y v).setCell z t) :=
  (turn2 g b w u v hx hy).trans (Turn.setCell _ _ z t hz) fun _ _ h => h
set_option maxRecDepth 100000 in
set_option maxHeartbeats 1000000 in
theorem dense_add (g b : Nat) (L id c : Int) (l : List Nd) (w : World) (h : DenAt w g b L l) (hcn : Canon l) (hid1 : 1 ≤ id) (hid2 : id < 2 * pw L) (hc : 0 ≤ c) (hm : sumL l + c ≤ 72057594037927935) (hlen : l.length ≤ 1000000000) :
    Calls Tryz.prog 85 #[.pointer (some ⟨g, 0, none⟩), .int .i64 id, .int .i64 c] w fun e w' => e = .returned (.int .i64 0) ∧ DenAt w' g b L (addS id c l) ∧ Turn (fun j => j = g ∨ j = b) w w' := by
  obtain ⟨c0, c1, c2, c3, f1, f2⟩ := h.cells
  have hl1 := h.l1
  have hl2 := h.l2
  have hs0 := sumL_nonneg l hcn.cntL
  have hR := hide (fun W => right_c L id W)
  rw [right_mk hl1 (by omega) hid1 hid2] at hR
  have hA := hide (fun W => reckon_add (sumL l) c W (by omega) (by omega))
  have hAF : addF (sumL l) c = (sumL l + c, true) := by unfold addF; rw [if_pos ⟨hs0, hc, by omega⟩]
  rw [hAF] at hA
  have hw0 := wt_nonneg id l hcn.cntL
  have hwm := wt_addS id id c l
  rw [if_pos rfl] at hwm
  have hwle : wt id l ≤ sumL l := by
    have := sumM_split (fun _ => 1) id l
    rw [← sumL_M] at this
    have h2 := sumM_nonneg (g := fun _ => 1) (l := del id l) (fun p hp => hcn.cntL p (del_mem.1 hp).1) (fun _ _ => by omega)
    omega
  have hsum := sumL_addS id c l
  have hln := len_addS hcn id hc
  obtain ⟨n, rfl⟩ := Int.eq_ofNat_of_zero_le (show 0 ≤ id by omega)
  obtain ⟨cc, fc⟩ := h.at hid2
  have hwk : ∀ k : Nat, wt k (addS (n : Int) c l) = if n = k then wt n (addS (n : Int) c l) else wt k l := fun k => by
    by_cases e : n = k
    · subst e; rw [if_pos rfl]
    · rw [if_neg e, wt_addS, if_neg (by omega)]; omega
  have hn1 : (n : Int) < ((2 * pw L).toNat : Int) := by omega
  have hne := h.ne
  generalize (2 * pw L).toNat = N at *
  have hh := hide h
  clear h
  replace hwk := hide hwk
  by_cases hz : wt n l = 0
  · by_cases hcp : 0 < c
    · have hl' : (l.length : Int) + 1 = ((addS (n : Int) c l).length : Int) := by rw [hln, if_pos ⟨hz, hcp⟩]; omega
      have hput := hide (hh.out.put hwk.out)
      rw [← hl', hwm, hsum, hz] at hput
      rw [hz] at cc
      replace hl' := hide hl'
      replace hln := hide hln
      replace hwm := hide hwm
      replace hsum := hide hsum
      clear hw0
      go_enter Tryz.func85, Tryz.ntmps85
      go_wp2_with fail
      refine Calls.mono (hR.out _) ?_
      rintro e w1 ⟨rfl, rfl⟩
      go_wp2_with fail
      refine Calls.mono (hA.out _) ?_
      rintro e w1 ⟨rfl, rfl⟩
      go_wp2_with fail
      go_ret
      refine ⟨rfl, by simpa using hput.out, turn3 g b _ _ _ _ (.inl rfl) (.inr rfl) (.inl rfl)⟩
    · obtain rfl : c = 0 := by omega
      have hput := hide (hh.out.put2 hwk.out (by rw [hln, if_neg (fun k => by omega)]; rfl))
      rw [hwm, hsum, hz] at hput
      rw [hz] at cc
      replace hln := hide hln
      replace hwm := hide hwm
      replace hsum := hide hsum
      clear hw0
      go_enter Tryz.func85, Tryz.ntmps85
      go_wp2_with fail
      refine Calls.mono (hR.out _) ?_
      rintro e w1 ⟨rfl, rfl⟩
      go_wp2_with fail
      refine Calls.mono (hA.out _) ?_
      rintro e w1 ⟨rfl, rfl⟩
      go_wp2_with fail
      go_ret
      refine ⟨rfl, by simpa using hput.out, turn2 g b _ _ _ (.inr rfl) (.inl rfl)⟩
  · have hput := hide (hh.out.put2 hwk.out (by rw [hln, if_neg (fun k => hz k.1)]; rfl))
    rw [hwm, hsum] at hput
    have hz2 : (wt n l == 0) = false := by simpa using hz
    replace hln := hide hln
    replace hwm := hide hwm
    replace hsum := hide hsum
    generalize wt n l = W0 at *
    go_enter Tryz.func85, Tryz.ntmps85
    go_wp2_with fail
    refine Calls.mono (hR.out _) ?_
    rintro e w1 ⟨rfl, rfl⟩
    go_wp2_with fail
    refine Calls.mono (hA.out _) ?_
    rintro e w1 ⟨rfl, rfl⟩
    go_wp2_with fail
    go_ret
    refine ⟨rfl, by simpa using hput.out, turn2 g b _ _ _ (.inr rfl) (.inl rfl)⟩
set_option maxRecDepth 100000 in
set_option maxHeartbeats 1000000 in
theorem dense_take (g b : Nat) (L id : Int) (l : List Nd) (w : World) (h : DenAt w g b L l) (hcn : Canon l) (hu : InU L l) (hm : sumL l ≤ 72057594037927935) (hid : id ≤ 9223372036854775807) (hlen : l.length ≤ 1000000000) :
    Calls Tryz.prog 123 #[.pointer (some ⟨g, 0, none⟩), .int .i64 id] w fun e w' => e = .returned (.int .i64 (wt id l)) ∧ DenAt w' g b L (del id l) ∧ Turn (fun j => j = g ∨ j = b) w w' := by
  obtain ⟨c0, c1, c2, c3, f1, f2⟩ := h.cells
  have hG := hide (dense_get g b L id l w h hu hid)
  have hw0 := wt_nonneg id l hcn.cntL
  by_cases hz : wt id l = 0
  · rw [hz] at hG ⊢
    rw [del_none hcn hz]
    have hh := hide h
    clear h
    go_enter Tryz.func123, Tryz.ntmps123
    go_wp2_with fail
    refine Calls.mono hG.out ?_
    rintro e w1 ⟨rfl, rfl⟩
    go_wp2_with fail
    go_ret
    exact ⟨rfl, hh.out, Turn.refl _ _⟩
  · have hwp : 0 < wt id l := by omega
    have hr : 1 ≤ id ∧ id < 2 * pw L := by
      obtain ⟨p, hp, e⟩ := mem_wt hz
      rw [← e]; exact hu p hp
    have hwle : wt id l ≤ sumL l := by
      have := sumM_split (fun _ => 1) id l
      rw [← sumL_M] at this
      have h2 := sumM_nonneg (g := fun _ => 1) (l := del id l) (fun p hp => hcn.cntL p (del_mem.1 hp).1) (fun _ _ => by omega)
      omega
    have hln := len_del hcn id
    rw [if_neg hz] at hln
    have hpos : 0 < l.length := by obtain ⟨p, hp, _⟩ := mem_wt hz; exact List.length_pos_of_mem hp
    have hl' : (l.length : Int) - 1 = ((del id l).length : Int) := by omega
    have hsm := sumL_del id l
    obtain ⟨n, rfl⟩ := Int.eq_ofNat_of_zero_le (show 0 ≤ id by omega)
    obtain ⟨cc, fc⟩ := h.at hr.2
    have hwd := wt_del n n l
    rw [if_pos rfl] at hwd
    have hput := hide (h.cut (id := n) (l' := del (n : Int) l) (fun k => by
      by_cases e : n = k
      · subst e; rw [if_pos rfl]
      · rw [if_neg e, wt_del, if_neg (by omega)]))
    rw [← hl', hwd, hsm] at hput
    have hn1 : (n : Int) < ((2 * pw L).toNat : Int) := by omega
    have hne := h.ne
    generalize (2 * pw L).toNat = N at *
    clear h
    replace hl' := hide hl'
    replace hsm := hide hsm
    replace hwd := hide hwd
    replace hln := hide hln
    generalize wt n l = W0 at *
    go_enter Tryz.func123, Tryz.ntmps123
    go_wp2_with fail
    refine Calls.mono hG.out ?_
    rintro e w1 ⟨rfl, rfl⟩
    go_wp2_with fail
    go_ret
    refine ⟨rfl, by simpa using hput.out, turn3 g b _ _ _ _ (.inr rfl) (.inl rfl) (.inl rfl)⟩
theorem dense_l (g b : Nat) (L : Int) (l : List Nd) (w : World) (h : DenAt w g b L l) : Calls Tryz.prog 75 #[.pointer (some ⟨g, 0, none⟩)] w fun e w' => e = .returned (.int .i64 L) ∧ w = w' := by
  obtain ⟨c0, -, -, -, -, -⟩ := h.cells
  clear h
  go_enter Tryz.func75, Tryz.ntmps75
  go_wp2_with fail
  go_ret
  exact ⟨rfl, rfl⟩
theorem dense_len (g b : Nat) (L : Int) (l : List Nd) (w : World) (h : DenAt w g b L l) : Calls Tryz.prog 95 #[.pointer (some ⟨g, 0, none⟩)] w fun e w' => e = .returned (.int .i64 (l.length : Int)) ∧ w = w' := by
  obtain ⟨-, c1, -, -, -, -⟩ := h.cells
  clear h
  go_enter Tryz.func95, Tryz.ntmps95
  go_wp2_with fail
  go_ret
  exact ⟨rfl, rfl⟩
theorem dense_total (g b : Nat) (L : Int) (l : List Nd) (w : World) (h : DenAt w g b L l) : Calls Tryz.prog 81 #[.pointer (some ⟨g, 0, none⟩)] w fun e w' => e = .returned (.int .i64 (sumL l)) ∧ w = w' := by
  obtain ⟨-, -, c2, -, -, -⟩ := h.cells
  clear h
  go_enter Tryz.func81, Tryz.ntmps81
  go_wp2_with fail
  go_ret
  exact ⟨rfl, rfl⟩
/-- The nodes below a number. -/
def ltL (i : Int) (l : List Nd) : List Nd := l.filter fun p => decide (p.1 < i)
theorem ltL_none {i : Int} {l : List Nd} (h : ∀ p ∈ l, i ≤ p.1) : ltL i l = [] := by
  unfold ltL
  rw [List.filter_eq_nil_iff]
  intro p hp k
  have := h p hp
  have := of_decide_eq_true k
  omega
theorem ltL_all {i : Int} {l : List Nd} (h : ∀ p ∈ l, p.1 < i) : ltL i l = l := by
  unfold ltL
  rw [List.filter_eq_self]
  intro p hp
  exact decide_eq_true (h p hp)
theorem ltL_len (i : Int) (l : List Nd) : (ltL i l).length ≤ l.length := List.length_filter_le _ _
theorem ltL_succ (i : Int) : ∀ {l : List Nd}, Canon l → ltL (i + 1) l = ltL i l ++ if wt i l = 0 then [] else [(i, wt i l)]
  | [], _ => by simp [ltL, wt]
  | p :: l, h => by
    obtain ⟨h1, h2⟩ := List.pairwise_cons.1 h.rise
    have hc := h.cnt p (by simp)
    have ih := ltL_succ i (l := l) ⟨h2, fun q hq => h.cnt q (by simp [hq])⟩
    have hcons : ∀ j, ltL j (p :: l) = if p.1 < j then p :: ltL j l else ltL j l := fun j => by
      unfold ltL
      by_cases e : p.1 < j
      · rw [List.filter_cons_of_pos (by simpa using e), if_pos e]
      · rw [List.filter_cons_of_neg (by simpa using e), if_neg e]
    rw [hcons, hcons]
    rcases Int.lt_trichotomy p.1 i with e | e | e
    · have hwc : wt i (p :: l) = wt i l := by rw [wt, if_neg (show ¬ p.1 = i by omega), Int.zero_add]
      rw [if_pos (by omega), if_pos e, ih, hwc, List.cons_append]
    · have hn : wt i l = 0 := wt_zero i l fun q hq => by have := h1 q hq; omega
      have hno : ltL i l = [] := ltL_none fun q hq => by have := h1 q hq; omega
      have hwc : wt i (p :: l) = p.2 := by rw [wt, if_pos e, hn]; omega
      rw [if_pos (by omega), if_neg (by omega), ih, hn, if_pos rfl, hno, hwc, if_neg (by omega)]
      subst e
      rfl
    · have hn : wt i l = 0 := wt_zero i l fun q hq => by have := h1 q hq; omega
      have hwc : wt i (p :: l) = wt i l := by rw [wt, if_neg (show ¬ p.1 = i by omega), Int.zero_add]
      rw [if_neg (by omega), if_neg (by omega), ih, hwc]
set_option maxRecDepth 100000 in
set_option maxHeartbeats 1000000 in
theorem dense_snap (g b : Nat) (L : Int) (l : List Nd) (w : World) (h : DenAt w g b L l) (hcn : Canon l) (hu : InU L l) (hlen : l.length ≤ 1000000) :
    Calls Tryz.prog 121 #[.pointer (some ⟨g, 0, none⟩)] w fun e w' => ∃ v, e = .returned v ∧ w'.ownsRow w.heap.size 67 2 v l.length (ndv l) ∧ Below w.heap.size w w' := by
  obtain ⟨-, -, -, c3, -, -⟩ := h.cells
  have hl1 := h.l1
  have hp : pw L ≤ 65536 := by have := pw_mono h.l2; rwa [show pw 16 = 65536 from rfl] at this
  have hp1 := pw_pos L
  have hat := hide (fun (W : World) (hW : Below w.heap.size w W) (i : Nat) (hi : (i : Int) < 2 * pw L) => ((h.kept hW).at hi).1)
  have hz : Hid (ltL 0 l = []) := ltL_none fun p hp => by have := hu p hp; omega
  have hall : Hid (ltL (((2 * pw L).toNat : Nat) : Int) l = l) := ltL_all fun p hp => by have := hu p hp; omega
  have hsucc := hide (fun i => ltL_succ i hcn)
  have hlt := hide (fun i => ltL_len i l)
  have hwp := hide (fun i => wt_nonneg i l hcn.cntL)
  obtain ⟨N, hN⟩ : ∃ N, (2 * pw L).toNat = N := ⟨_, rfl⟩
  have hN1 : Hid ((N : Int) = 2 * pw L) := by show _ = _; omega
  have hN2 : N ≤ 131072 := by omega
  have hblt : b < w.heap.size := h.lt.2
  rw [hN] at c3 hall
  clear hN h hp hp1
  go_enter Tryz.func121, Tryz.ntmps121
  go_wp2_with fail
  go_loopw [3, 13] (fun out k wr => ∃ (i : Nat), k = .int .i64 i ∧ i ≤ N ∧ wr.ownsRow w.heap.size 67 2 out (ltL i l).length (ndv (ltL i l)) ∧ Below w.heap.size w wr) (fun _ k _ => N - (intOf k).toNat)
  case atStart => exact ⟨0, rfl, Nat.zero_le _, by rw [show ((0 : Nat) : Int) = 0 from rfl, hz.out]; exact World.ownsRow_nil _ _ _ _, Below.refl _ _⟩
  case round =>
    obtain ⟨i, rfl, hi, how, hbel⟩ := hrel
    have hsz := hbel.size
    have hb2 : b < wr.heap.size := by omega
    by_cases hlt2 : i < N
    · have cc := hat.out wr hbel i (by rw [← hN1.out]; omega)
      have hs := hide (hsucc.out i)
      have hl0 := hlt.out i
      have hw0 := hwp.out i
      by_cases h0 : wt i l = 0
      · have hs2 : Hid (ltL ((i : Int) + 1) l = ltL i l) := by show _ = _; rw [hs.out, if_pos h0, List.append_nil]
        rw [h0] at cc
        generalize ltL (i : Int) l = acc at *
        have hbh := hide hbel
        obtain ⟨m, hmm⟩ : ∃ m, Hid (acc.length = m) := ⟨_, rfl⟩
        rw [hmm.out] at how hl0
        have howh := hide how
        obtain ⟨Ao, co, rfl⟩ := own_len how
        clear how hbel
        go_wp2_with fail
        go_roundw
        case rel => exact ⟨i + 1, by go_num, by omega, by rw [show ((i + 1 : Nat) : Int) = (i : Int) + 1 by omega, hs2.out, hmm.out]; exact howh.out, hbh.out⟩
        case measure => simp [intOf]; omega
      · have hs2 : Hid (ltL ((i : Int) + 1) l = ltL i l ++ [((i : Int), wt i l)]) := by show _ = _; rw [hs.out, if_neg h0]
        have hwp2 : 0 < wt i l := by omega
        generalize wt i l = c at *
        generalize ltL (i : Int) l = acc at *
        obtain ⟨m, hmm⟩ : ∃ m, Hid (acc.length = m) := ⟨_, rfl⟩
        rw [hmm.out] at how hl0
        obtain ⟨Ao, co, rfl⟩ := own_len how
        have hbh := hide hbel
        clear hbel
        go_wp2_with (at_builtin; refine wpList_app1 elNode rfl (.tmp 20) (.tmp 24) rfl w.heap.size _ _ _ [.int .i64 (i : Int), .int .i64 c] 67 rfl how rfl rfl (nd_ones ((i : Int), c)) (by omega) hsz ?_; intro v1 w1 how1 hb1 hgr1 hat1; have how1 := hide how1; have hb1 := hide hb1; clear hgr1 hat1)
        go_roundw
        case rel => exact ⟨i + 1, by go_num, by omega, by rw [show ((i + 1 : Nat) : Int) = (i : Int) + 1 by omega, hs2.out, List.length_append, ndv_snoc, hmm.out]; exact how1.out, hbh.out.trans hb1.out⟩
        case measure => simp [intOf]; omega
    · obtain rfl : i = N := by omega
      have hbh := hide hbel
      rw [hall.out] at how
      obtain ⟨m, hmm⟩ : ∃ m, Hid (l.length = m) := ⟨_, rfl⟩
      rw [hmm.out] at how
      have howh := hide how
      obtain ⟨Ao, co, rfl⟩ := own_len how
      clear how hbel
      go_wp2_with fail
      go_ret
      exact ⟨_, rfl, by rw [hmm.out]; exact howh.out, hbh.out⟩
end Go.Proofs.YteebghoijaaakaaGreat
/- The walks of layer 8: the table that is looked through; where looking begins, and where it ends. By the prover of this repo. -/
namespace Go.Proofs.YteebghoijaaakaaGreat
open Go.RowKit
open TwigM RollM StoM

/-- A number, and as many of its last bits. -/
theorem and_mask (d : Int) (k : Nat) (hk : k ≤ 62) : bits .and .i64 d (((2 ^ k : Nat) : Int) - 1) = d % ((2 ^ k : Nat) : Int) := by
  have hp : 2 ^ k ≤ 2 ^ 62 := Nat.pow_le_pow_right (by omega) hk
  have hpos : 0 < 2 ^ k := Nat.two_pow_pos k
  have e0 : (((2 ^ k : Nat) : Int) - 1) = ((2 ^ k - 1 : Nat) : Int) := by omega
  have e1 : (BitVec.ofInt 64 d).toNat = (d % 18446744073709551616).toNat := by rw [BitVec.toNat_ofInt]; rfl
  have e2 : (BitVec.ofInt 64 d &&& BitVec.ofInt 64 ((2 ^ k - 1 : Nat) : Int)).toNat = (d % 18446744073709551616).toNat % 2 ^ k := by
    rw [BitVec.toNat_and, e1, toNat_i64 (2 ^ k - 1) (by omega), Nat.and_two_pow_sub_one_eq_mod]
  have e3 : (((d % 18446744073709551616).toNat % 2 ^ k : Nat) : Int) = d % ((2 ^ k : Nat) : Int) := by
    rw [Int.natCast_emod, Int.toNat_of_nonneg (Int.emod_nonneg _ (by omega))]
    refine Int.emod_emod_of_dvd d ?_
    rw [show (18446744073709551616 : Int) = ((2 ^ 64 : Nat) : Int) from rfl]
    exact Int.natCast_dvd_natCast.2 (Nat.pow_dvd_pow 2 (by omega))
  have hlt : (d % 18446744073709551616).toNat % 2 ^ k < 2 ^ k := Nat.mod_lt _ hpos
  rw [e0]
  show IntKind.i64.wrap ((BitVec.ofInt 64 d &&& BitVec.ofInt 64 ((2 ^ k - 1 : Nat) : Int)).toNat : Int) = _
  rw [e2, IntKind.wrap_i64, ← e3]
  omega
theorem nxt_mod {n i : Nat} (hi : i < n) : ((i : Int) + 1) % (n : Int) = (nxtN n i : Int) := by
  unfold nxtN
  split
  · rename_i h
    rw [show ((i : Int) + 1) = (n : Int) by omega, Int.emod_self]; rfl
  · rw [Int.emod_eq_of_lt (by omega) (by omega)]; omega
theorem way_mod {n a b : Nat} (ha : a < n) (hb : b < n) : ((b : Int) - (a : Int)) % (n : Int) = (wayN n a b : Int) := by
  unfold wayN
  split
  · rw [Int.emod_eq_of_lt (by omega) (by omega)]; omega
  · have : ((b : Int) - (a : Int)) % (n : Int) = ((b : Int) - (a : Int) + (n : Int)) % (n : Int) := by rw [Int.add_emod_right]
    rw [this, Int.emod_eq_of_lt (by omega) (by omega)]; omega
/-- Where looking begins. -/
def hmF (k : Nat) (id : Int) : Nat := (id * 11400714819323198485 % 18446744073709551616 / ((2 ^ (64 - k) : Nat) : Int)).toNat
theorem hmF_lt (k : Nat) (hk : k ≤ 62) (id : Int) : hmF k id < 2 ^ k := by
  have h0 := Int.emod_nonneg (id * 11400714819323198485) (show (18446744073709551616 : Int) ≠ 0 by omega)
  have h1 := Int.emod_lt_of_pos (id * 11400714819323198485) (show (0 : Int) < 18446744073709551616 by omega)
  unfold hmF
  generalize id * 11400714819323198485 % 18446744073709551616 = x at *
  have e : ((2 ^ 64 : Nat) : Int) = ((2 ^ k : Nat) : Int) * ((2 ^ (64 - k) : Nat) : Int) := by
    rw [← Int.natCast_mul, ← Nat.pow_add, show k + (64 - k) = 64 by omega]
  have hp : (0 : Int) < ((2 ^ (64 - k) : Nat) : Int) := by have := Nat.two_pow_pos (64 - k); omega
  have h2 : x / ((2 ^ (64 - k) : Nat) : Int) < ((2 ^ k : Nat) : Int) := Int.ediv_lt_of_lt_mul hp (by rw [← e]; exact h1)
  have h3 : 0 ≤ x / ((2 ^ (64 - k) : Nat) : Int) := Int.ediv_nonneg h0 (by omega)
  omega
set_option maxRecDepth 100000 in
theorem probe_home (k : Nat) (id : Int) (w : World) (hk1 : 1 ≤ k) (hk : k ≤ 62) (h1 : 1 ≤ id) (h2 : id ≤ 9223372036854775807) :
    Calls Tryz.prog 168 #[.int .i64 (k : Int), .int .i64 id] w fun e w' => e = .returned (.int .i64 (hmF k id : Int)) ∧ w = w' := by
  go_enter Tryz.func168, Tryz.ntmps168
  go_wp2_with fail
  go_ret
  refine ⟨ret_congr (int_congr ?_), rfl⟩
  have hlt := hmF_lt k hk id
  have hp : 2 ^ k ≤ 2 ^ 62 := Nat.pow_le_pow_right (by omega) hk
  have h3 : 0 ≤ id * 11400714819323198485 % 18446744073709551616 / ((2 ^ (64 - k) : Nat) : Int) := Int.ediv_nonneg (Int.emod_nonneg _ (by omega)) (Int.natCast_nonneg _)
  have e : ((2 : Int) ^ (64 - k)) = ((2 ^ (64 - k) : Nat) : Int) := by simp
  unfold hmF at hlt ⊢
  rw [e, IntKind.wrap_u64]
  rw [wrap_in _ (by omega)]
  omega
theorem probe_next (g b k cp i : Nat) (w : World) (hk : k ≤ 40) (hi : i < 2 ^ k) (c4 : w.cell? ⟨g, 4, none⟩ = some (.slice (some ⟨b, 0, none⟩) (2 ^ k) cp)) :
    Calls Tryz.prog 167 #[.pointer (some ⟨g, 0, none⟩), .int .i64 (i : Int)] w fun e w' => e = .returned (.int .i64 (nxtN (2 ^ k) i : Int)) ∧ w = w' := by
  have hp : 2 ^ k ≤ 2 ^ 40 := Nat.pow_le_pow_right (by omega) hk
  have hm := and_mask ((i : Int) + 1) k (by omega)
  rw [nxt_mod hi] at hm
  have hpos : 0 < 2 ^ k := Nat.two_pow_pos k
  rw [show (2 : Nat) ^ 40 = 1099511627776 from rfl] at hp
  generalize 2 ^ k = n at *
  go_enter Tryz.func167, Tryz.ntmps167
  go_wp2_with fail
  go_ret
  exact ⟨rfl, rfl⟩
/-- A row's first cells. -/
def ArrL (w : World) (b : Nat) (xs : List Value) : Prop := ∃ rest : List Value, Blk w b 67 (xs ++ rest).toArray
/-- A table's slots: the block may have room behind them. -/
def Arr (w : World) (b : Nat) (S : List Nd) : Prop := ArrL w b (ndv S)
theorem ArrL.set {w : World} {b : Nat} {xs : List Value} (h : ArrL w b xs) {i : Nat} (hi : i < xs.length) (v : Value) : ArrL (w.setCell ⟨b, i, none⟩ v) b (xs.set i v) := by
  obtain ⟨rest, h⟩ := h
  refine ⟨rest, ?_⟩
  have h2 := h.set i v
  have e : (xs ++ rest).toArray.setIfInBounds i v = (xs.set i v ++ rest).toArray := by
    rw [List.setIfInBounds_toArray, List.set_append_left _ _ hi]
  rw [e] at h2
  exact h2
section
variable {w w' : World} {b : Nat} {S : List Nd}
theorem Arr.of (h : Blk w b 67 (ndv S).toArray) : Arr w b S := ⟨[], by rw [List.append_nil]; exact h⟩
theorem Arr.lt (h : Arr w b S) : b < w.heap.size := by obtain ⟨rest, h⟩ := h; exact h.lt
theorem Arr.kept (h : Arr w b S) (q : Below w.heap.size w w') : Arr w' b S := by obtain ⟨rest, h⟩ := h; exact ⟨rest, h.kept q⟩
theorem Arr.free (h : Arr w b S) (i : Nat) : w.frozen? ⟨b, i, none⟩ = false := by obtain ⟨rest, h⟩ := h; exact h.free i
theorem Arr.off (h : Arr w b S) {p : Addr} (hn : b ≠ p.block) (v : Value) : Arr (w.setCell p v) b S := by obtain ⟨rest, h⟩ := h; exact ⟨rest, h.off hn v⟩
end
theorem nd_cells {w : World} {b : Nat} {S : List Nd} (h : Arr w b S) {i : Nat} (hi : i < S.length) :
    w.cell? ⟨b, i * 2, none⟩ = some (.int .i64 (idA S i)) ∧ w.cell? ⟨b, i * 2 + 1, none⟩ = some (.int .i64 (cntA S i)) := by
  obtain ⟨rest, h⟩ := h
  have hz := ndv_length S
  refine ⟨?_, ?_⟩
  · rw [h.cell (i * 2), List.getElem?_toArray, List.getElem?_append_left (by omega), ndv_get S (i * 2) (by omega)]
    unfold ndc idA
    rw [if_pos (by omega), show i * 2 / 2 = i by omega]
  · rw [h.cell (i * 2 + 1), List.getElem?_toArray, List.getElem?_append_left (by omega), ndv_get S (i * 2 + 1) (by omega)]
    unfold ndc cntA
    rw [if_neg (by omega), show (i * 2 + 1) / 2 = i by omega]
theorem way_le {n a b : Nat} (ha : a < n) (hb : b < n) : wayN n a b + 1 ≤ n := by unfold wayN; split <;> omega
theorem way_nxt {n a b : Nat} (ha : a < n) (hb : b < n) (hne : a ≠ b) : wayN n a b = wayN n (nxtN n a) b + 1 ∧ nxtN n a < n := by
  unfold wayN nxtN
  split <;> split <;> split <;> omega
set_option maxRecDepth 100000 in
set_option maxHeartbeats 1000000 in
theorem probe_look (g b k cp : Nat) (S : List Nd) (x : Int) (fr : Nat) (w : World) (hk1 : 1 ≤ k) (hk : k ≤ 40) (hS : S.length = 2 ^ k) (c1 : w.cell? ⟨g, 1, none⟩ = some (.int .i64 (k : Int))) (c4 : w.cell? ⟨g, 4, none⟩ = some (.slice (some ⟨b, 0, none⟩) (2 ^ k) cp))
    (hb : Arr w b S) (hg : g < w.heap.size) (hx1 : 1 ≤ x) (hx2 : x ≤ 9223372036854775807) (hf : fr < S.length) (hf0 : cntA S fr = 0) :
    Calls Tryz.prog 128 #[.pointer (some ⟨g, 0, none⟩), .int .i64 x] w fun e w' => (∃ (r : Nat) (m : Int), e = .returned (.tuple #[.int .i64 (r : Int), .int .i64 m]) ∧ r < S.length ∧ stopB S x r = true ∧ ∀ j, j < S.length → wayN S.length (hmF k x) j < wayN S.length (hmF k x) r → stopB S x j = false) ∧ Below w.heap.size w w' := by
  have hH := hide (fun W => probe_home k x W hk1 (by omega) hx1 hx2)
  have hh0 := hmF_lt k (by omega) x
  obtain ⟨R, hR⟩ : ∃ R, lookG S x (wayN S.length (hmF k x) fr + 1) (hmF k x) = R := ⟨_, rfl⟩
  have hsp := lookG_spec S x fr hf hf0 (wayN S.length (hmF k x) fr + 1) (hmF k x) (by rw [hS]; exact hh0) (by omega)
  rw [hR] at hsp
  replace hsp := hide hsp
  replace hR := hide hR
  have hNx := hide (fun (i : Nat) (hi : i < 2 ^ k) (W : World) (hW : Below w.heap.size w W) => probe_next g b k cp i W hk hi ((hW.cell (p := ⟨g, 4, none⟩) hg).trans c4))
  have hcs := hide (fun (i : Nat) (hi : i < S.length) (W : World) (hW : Below w.heap.size w W) => nd_cells (hb.kept hW) hi)
  have hc4 := hide (fun (W : World) (hW : Below w.heap.size w W) => (hW.cell (p := ⟨g, 4, none⟩) hg).trans c4)
  have hp : 2 ^ k ≤ 2 ^ 40 := Nat.pow_le_pow_right (by omega) hk
  rw [show (2 : Nat) ^ 40 = 1099511627776 from rfl] at hp
  have hblt := hb.lt
  obtain ⟨n, hn⟩ : ∃ n, 2 ^ k = n := ⟨_, rfl⟩
  have hSn : Hid (S.length = n) := hS.trans hn
  rw [hSn.out] at hR
  rw [hn] at hNx hc4 c4 hp hh0
  have hfn : fr < n := by rw [← hSn.out]; exact hf
  have hway := way_le hh0 hfn
  generalize hmF k x = h0 at *
  clear hS hn hb hf
  go_enter Tryz.func128, Tryz.ntmps128
  go_wp2_with fail
  go_step3
  go_wp2_with fail
  refine Calls.mono (hH.out _) ?_
  rintro e w1 ⟨rfl, rfl⟩
  go_wp2_with fail
  go_step3
  go_wp2_with fail
  go_loopw [6, 7] (fun iv mv wr => ∃ (i m : Nat), iv = .int .i64 (i : Int) ∧ mv = .int .i64 (m : Int) ∧ i < n ∧ m + wayN n i fr ≤ n ∧ Hid (lookG S x (wayN n i fr + 1) i = R) ∧ Below w.heap.size w wr) (fun iv _ _ => wayN n (intOf iv).toNat fr)
  case atStart => exact ⟨h0, 1, rfl, rfl, hh0, by omega, hR, Below.refl _ _⟩
  case round =>
    clear hR hh0 hway
    obtain ⟨i, m, rfl, rfl, hi, hm, hlk, hbel⟩ := hrel
    have hsz := hbel.size
    obtain ⟨d0, d1⟩ := hcs.out i (by rw [hSn.out]; exact hi) wr hbel
    have d4 := hc4.out wr hbel
    have hb2 : b < wr.heap.size := by omega
    have hg2 : g < wr.heap.size := by omega
    have hlk2 := hlk.out
    rw [lookG] at hlk2
    by_cases hst : stopB S x i = true
    · rw [if_pos hst] at hlk2
      subst hlk2
      have hst2 := of_decide_eq_true hst
      have hbh := hide hbel
      clear hlk hst
      by_cases hc0 : cntA S i = 0
      · rw [hc0] at d1
        clear hst2 hc0 hbel
        go_wp2_with fail
        try rw [Exit.noGoto_ret]
        go_ret2
        exact ⟨⟨i, m, rfl, hsp.out.1, hsp.out.2.1, hsp.out.2.2.2⟩, hbh.out.trans (balloc0 wr _ |>.mono hsz)⟩
      · have hid : idA S i = x := by rcases hst2 with q | q; exact absurd q hc0; exact q
        have hc1 : (cntA S i == 0) = false := by simpa using hc0
        rw [hid] at d0
        generalize cntA S i = ci at *
        clear hst2 hc0 hbel hid
        go_wp2_with fail
        try rw [Exit.noGoto_ret]
        go_ret2
        exact ⟨⟨i, m, rfl, hsp.out.1, hsp.out.2.1, hsp.out.2.2.2⟩, hbh.out.trans (balloc0 wr _ |>.mono hsz)⟩
    · rw [if_neg hst] at hlk2
      have hst2 : ¬ (cntA S i = 0 ∨ idA S i = x) := fun q => hst (decide_eq_true q)
      have hne : i ≠ fr := fun e => hst2 (.inl (e ▸ hf0))
      obtain ⟨hw1, hw2⟩ := way_nxt hi hfn hne
      have hlk3 : Hid (lookG S x (wayN n (nxtN n i) fr + 1) (nxtN n i) = R) := by
        show _ = _
        rw [← hlk2, hSn.out, hw1]
      have hc1 : (cntA S i == 0) = false := by simpa using fun q => hst2 (.inl q)
      have hc2 : (idA S i == x) = false := by simpa using fun q => hst2 (.inr q)
      have hN := hide (fun (o : Obj) => hNx.out i hi (wr.alloc o) (hbel.trans (balloc0 wr o |>.mono hsz)))
      have hbh := hide hbel
      replace hw1 := hide hw1
      generalize nxtN n i = i' at *
      generalize cntA S i = ci at *
      generalize idA S i = ii at *
      clear hst2 hlk hlk2 hst hbel
      go_wp2_with fail
      refine Calls.mono (hN.out _) ?_
      rintro e w1 ⟨rfl, rfl⟩
      go_wp2_with fail
      go_roundw
      case rel => exact ⟨i', m + 1, rfl, by go_num, hw2, by have := hw1.out; omega, hlk3, hbh.out.trans (balloc0 wr _ |>.mono hsz)⟩
      case measure =>
        have := hw1.out
        simp [intOf]; omega
end Go.Proofs.YteebghoijaaakaaGreat
/- The walks of layer 8, on: the table's store; what a node weighs. By the prover of this repo. -/
namespace Go.Proofs.YteebghoijaaakaaGreat
open Go.RowKit
open TwigM RollM StoM

theorem Arr.turned {w w' : World} {b : Nat} {S : List Nd} {Q : Nat → Prop} (h : Arr w b S) (q : Turn Q w w') (h1 : ¬ Q b) : Arr w' b S := by obtain ⟨rest, h⟩ := h; exact ⟨rest, h.turned q h1⟩
theorem Arr.drewN {w : World} {b : Nat} {S : List Nd} (h : Arr w b S) (m : Nat) : Arr (w.drewN m) b S := by obtain ⟨rest, h⟩ := h; exact ⟨rest, h⟩
/-- A table's struct in block g, its slots in block b. -/
structure PrbRaw (w : World) (g b k cp : Nat) (S : List Nd) (L u t : Int) : Prop where
  blk : Blk w g 180 #[.int .i64 L, .int .i64 (k : Int), .int .i64 u, .int .i64 t, .slice (some ⟨b, 0, none⟩) (2 ^ k) cp]
  arr : Arr w b S
  ne : b ≠ g
  len : S.length = 2 ^ k
  k1 : 3 ≤ k
  k2 : k ≤ 40
/-- A table that has nodes. -/
structure PrbAt (w : World) (g b k cp : Nat) (S : List Nd) (L : Int) (l : List Nd) : Prop where
  raw : PrbRaw w g b k cp S L (l.length : Int) (sumL l)
  tab : Tab (hmF k) S l
  half : 2 * l.length ≤ S.length
  l1 : 1 ≤ L
  l2 : L ≤ 48
section
variable {w w' : World} {g b k cp : Nat} {S l : List Nd} {L u t : Int} {Q : Nat → Prop}
theorem PrbRaw.lt (h : PrbRaw w g b k cp S L u t) : g < w.heap.size ∧ b < w.heap.size := ⟨h.blk.lt, h.arr.lt⟩
theorem PrbRaw.turned (h : PrbRaw w g b k cp S L u t) (q : Turn Q w w') (h1 : ¬ Q g) (h2 : ¬ Q b) : PrbRaw w' g b k cp S L u t := ⟨h.blk.turned q h1, h.arr.turned q h2, h.ne, h.len, h.k1, h.k2⟩
theorem PrbRaw.kept (h : PrbRaw w g b k cp S L u t) (q : Below w.heap.size w w') : PrbRaw w' g b k cp S L u t := ⟨h.blk.kept q, h.arr.kept q, h.ne, h.len, h.k1, h.k2⟩
theorem PrbAt.turned (h : PrbAt w g b k cp S L l) (q : Turn Q w w') (h1 : ¬ Q g) (h2 : ¬ Q b) : PrbAt w' g b k cp S L l := ⟨h.raw.turned q h1 h2, h.tab, h.half, h.l1, h.l2⟩
theorem PrbAt.kept (h : PrbAt w g b k cp S L l) (q : Below w.heap.size w w') : PrbAt w' g b k cp S L l := ⟨h.raw.kept q, h.tab, h.half, h.l1, h.l2⟩
theorem PrbRaw.cells (h : PrbRaw w g b k cp S L u t) : w.cell? ⟨g, 0, none⟩ = some (.int .i64 L) ∧ w.cell? ⟨g, 1, none⟩ = some (.int .i64 (k : Int)) ∧ w.cell? ⟨g, 2, none⟩ = some (.int .i64 u) ∧ w.cell? ⟨g, 3, none⟩ = some (.int .i64 t) ∧
    w.cell? ⟨g, 4, none⟩ = some (.slice (some ⟨b, 0, none⟩) (2 ^ k) cp) ∧ w.frozen? ⟨g, 1, none⟩ = false ∧ w.frozen? ⟨g, 2, none⟩ = false ∧ w.frozen? ⟨g, 3, none⟩ = false ∧ w.frozen? ⟨g, 4, none⟩ = false :=
  ⟨h.blk.cell 0, h.blk.cell 1, h.blk.cell 2, h.blk.cell 3, h.blk.cell 4, h.blk.free 1, h.blk.free 2, h.blk.free 3, h.blk.free 4⟩
theorem PrbRaw.big (h : PrbRaw w g b k cp S L u t) : 8 ≤ 2 ^ k ∧ 2 ^ k ≤ 1099511627776 := by
  have h1 : 2 ^ 3 ≤ 2 ^ k := Nat.pow_le_pow_right (by omega) h.k1
  have h2 : 2 ^ k ≤ 2 ^ 40 := Nat.pow_le_pow_right (by omega) h.k2
  rw [show (2 : Nat) ^ 40 = 1099511627776 from rfl] at h2
  omega
theorem PrbAt.room (h : PrbAt w g b k cp S L l) (hc : Canon l) : ∃ e, e < S.length ∧ cntA S e = 0 := by
  have h1 := h.raw.big
  have h2 := h.raw.len
  have h3 := h.half
  exact h.tab.room hc (by omega)
end
theorem PrbRaw.look {w : World} {g b k cp : Nat} {S : List Nd} {L u t : Int} (h : PrbRaw w g b k cp S L u t) (x : Int) (hx1 : 1 ≤ x) (hx2 : x ≤ 9223372036854775807) (hr : ∃ e, e < S.length ∧ cntA S e = 0) :
    Calls Tryz.prog 128 #[.pointer (some ⟨g, 0, none⟩), .int .i64 x] w fun e w' => (∃ (r : Nat) (m : Int), e = .returned (.tuple #[.int .i64 (r : Int), .int .i64 m]) ∧ r < S.length ∧ stopB S x r = true ∧ ∀ j, j < S.length → wayN S.length (hmF k x) j < wayN S.length (hmF k x) r → stopB S x j = false) ∧ Below w.heap.size w w' := by
  obtain ⟨e, he, h0⟩ := hr
  obtain ⟨-, c1, -, -, c4, -⟩ := h.cells
  exact probe_look g b k cp S x e w (by have := h.k1; omega) h.k2 h.len c1 c4 h.arr h.lt.1 hx1 hx2 he h0
theorem make_nodes (n : Int) (h0 : 0 ≤ n) (h1 : n ≤ 2199023255552) (V : World) : (Instr.makeSlice 64 (.int .i64 n) (.int .i64 n)).run Tryz.prog V = .ok (.slice (some ⟨V.heap.size, 0, none⟩) n.toNat n.toNat) (V.alloc (.cells (ndv (List.replicate n.toNat (0, 0))).toArray 67)) := by
  obtain ⟨i, hi, hz, hs, hb⟩ := info_parts (show (Tryz.prog.info? 67).map (fun i => (i.zero, i.size, i.bytes)) = some (some (nv (0, 0)), 2, 16) by kernel_rfl)
  have h := run_make (P := Tryz.prog) V 64 67 i (nv (0, 0)) Tryz.underlying64 hi hz .i64 .i64 n n h0 (Int.le_refl _) (by rw [hb]; omega) (by omega)
  rw [hs] at h
  have e : madeCells (nv (0, 0)).cells (n.toNat * 2) = (ndv (List.replicate n.toNat (0, 0))).toArray := by
    apply Array.ext_getElem?
    intro j
    have er : (ndv (List.replicate n.toNat ((0 : Int), (0 : Int)))).toArray[j]? = (ndv (List.replicate n.toNat (0, 0)))[j]? := by simp
    by_cases hj : j < n.toNat * 2
    · rw [er, ndv_get _ j (by rw [List.length_replicate]; exact hj)]
      have hz2 : (List.replicate n.toNat ((0 : Int), (0 : Int))).getD (j / 2) (0, 0) = (0, 0) := by
        rw [List.getD_eq_getElem?_getD, List.getElem?_replicate]; split <;> rfl
      unfold madeCells ndc
      rw [hz2]
      rcases Nat.mod_two_eq_zero_or_one j with e | e <;> simp [hj, e, Value.cells]
    · rw [er, Array.getElem?_eq_none (by rw [size_madeCells]; omega), List.getElem?_eq_none (by rw [ndv_length, List.length_replicate]; omega)]
  rw [e] at h
  exact h
theorem probe_new_no (L : Int) (w : World) (h : ¬ (1 ≤ L ∧ L ≤ 48)) : Calls Tryz.prog 79 #[.int .i64 L] w fun e w' => e = .returned (.tuple #[.pointer none, .int .i64 2]) ∧ w = w' := by
  by_cases h1 : 1 ≤ L
  · have h2 : 48 < L := by omega
    clear h
    go_enter Tryz.func79, Tryz.ntmps79
    go_wp2_with fail
    go_ret2
    exact ⟨rfl, rfl⟩
  · clear h
    go_enter Tryz.func79, Tryz.ntmps79
    go_wp2_with fail
    go_ret2
    exact ⟨rfl, rfl⟩
set_option maxRecDepth 100000 in
theorem probe_new (L : Int) (w : World) (h1 : 1 ≤ L) (h2 : L ≤ 48) : Calls Tryz.prog 79 #[.int .i64 L] w fun e w' =>
    ∃ g b, e = .returned (.tuple #[.pointer (some ⟨g, 0, none⟩), .int .i64 0]) ∧ PrbAt w' g b 3 8 (List.replicate 8 (0, 0)) L [] ∧ w.heap.size ≤ g ∧ w.heap.size ≤ b ∧ Below w.heap.size w w' := by
  have hmk := make_nodes 8 (by omega) (by omega) w
  go_enter Tryz.func79, Tryz.ntmps79
  go_wp2_with fail
  go_ret2
  have hb0 := balloc0 w (.cells (ndv (List.replicate (8 : Int).toNat (0, 0))).toArray 67)
  refine ⟨w.heap.size + 1, w.heap.size, rfl, ⟨⟨Blk.made_at _ _ _ (by simp), Arr.of ((Blk.made w _ _).alloc _), by omega, rfl, by omega, by omega⟩, Tab.nil _ _, by simp, h1, h2⟩, by omega, Nat.le_refl _, balloc hb0 _⟩
theorem probe_right (g b k cp : Nat) (S : List Nd) (L u t x : Int) (w : World) (h : PrbRaw w g b k cp S L u t) : Calls Tryz.prog 127 #[.pointer (some ⟨g, 0, none⟩), .int .i64 x] w fun e w' => e = .returned (.bool (rightB L x)) ∧ w = w' := by
  obtain ⟨c0, -, -, -, -, -⟩ := h.cells
  have hR := hide (fun W => right_c L x W)
  clear h
  go_enter Tryz.func127, Tryz.ntmps127
  go_wp2_with fail
  refine Calls.mono (hR.out _) ?_
  rintro e w1 ⟨rfl, rfl⟩
  go_wp2_with fail
  go_ret
  exact ⟨rfl, rfl⟩
theorem probe_l (g b k cp : Nat) (S : List Nd) (L u t : Int) (w : World) (h : PrbRaw w g b k cp S L u t) : Calls Tryz.prog 77 #[.pointer (some ⟨g, 0, none⟩)] w fun e w' => e = .returned (.int .i64 L) ∧ w = w' := by
  obtain ⟨c0, -, -, -, -, -⟩ := h.cells
  clear h
  go_enter Tryz.func77, Tryz.ntmps77
  go_wp2_with fail
  go_ret
  exact ⟨rfl, rfl⟩
theorem probe_len (g b k cp : Nat) (S : List Nd) (L u t : Int) (w : World) (h : PrbRaw w g b k cp S L u t) : Calls Tryz.prog 96 #[.pointer (some ⟨g, 0, none⟩)] w fun e w' => e = .returned (.int .i64 u) ∧ w = w' := by
  obtain ⟨-, -, c2, -, -, -⟩ := h.cells
  clear h
  go_enter Tryz.func96, Tryz.ntmps96
  go_wp2_with fail
  go_ret
  exact ⟨rfl, rfl⟩
theorem probe_total (g b k cp : Nat) (S : List Nd) (L u t : Int) (w : World) (h : PrbRaw w g b k cp S L u t) : Calls Tryz.prog 82 #[.pointer (some ⟨g, 0, none⟩)] w fun e w' => e = .returned (.int .i64 t) ∧ w = w' := by
  obtain ⟨-, -, -, c3, -, -⟩ := h.cells
  clear h
  go_enter Tryz.func82, Tryz.ntmps82
  go_wp2_with fail
  go_ret
  exact ⟨rfl, rfl⟩
set_option maxRecDepth 100000 in
set_option maxHeartbeats 1000000 in
theorem probe_get (g b k cp : Nat) (S : List Nd) (L x : Int) (l : List Nd) (w : World) (h : PrbAt w g b k cp S L l) (hc : Canon l) (hu : InU L l) :
    Calls Tryz.prog 84 #[.pointer (some ⟨g, 0, none⟩), .int .i64 x] w fun e w' => e = .returned (.int .i64 (wt x l)) ∧ Below w.heap.size w w' := by
  have hR := hide (fun W (hW : PrbRaw W g b k cp S L (l.length : Int) (sumL l)) => probe_right g b k cp S L (l.length : Int) (sumL l) x W hW)
  by_cases hr : 1 ≤ x ∧ x < 2 * pw L
  · have hrb : rightB L x = true := right_mk h.l1 h.l2 hr.1 hr.2
    rw [hrb] at hR
    have hx2 : x ≤ 9223372036854775807 := by have := pw_le48 h.l2; omega
    have hLk := hide (h.raw.look x hr.1 hx2 (h.room hc))
    have hhm := hmF_lt k (by have := h.raw.k2; omega) x
    have hlk := hide (fun (r : Nat) (q1 : r < S.length) (q2 : stopB S x r = true) q3 => (h.tab.look (x := x) (by rw [h.raw.len]; exact hhm) q1 q2 q3).1)
    have hraw := hide h.raw
    have hlen := hide h.raw.len
    obtain ⟨hbig1, hbig2⟩ := h.raw.big
    clear h
    go_enter Tryz.func84, Tryz.ntmps84
    go_wp2_with fail
    refine Calls.mono (hR.out _ hraw.out) ?_
    rintro e w1 ⟨rfl, rfl⟩
    go_wp2_with fail
    refine Calls.mono hLk.out ?_
    rintro e w1 ⟨⟨r, m, rfl, hr1, hr2, hr3⟩, hb1⟩
    have hraw1 := hraw.out.kept hb1
    obtain ⟨-, -, -, -, c4, -⟩ := hraw1.cells
    obtain ⟨-, d1⟩ := nd_cells hraw1.arr hr1
    rw [hlk.out r hr1 hr2 hr3] at d1
    rw [hlen.out] at hr1
    have hblt := hraw1.lt.2
    generalize 2 ^ k = n at *
    replace hb1 := hide hb1
    clear hr2 hr3 hraw1
    go_wp2_with fail
    go_ret
    exact ⟨rfl, hb1.out⟩
  · have hrb : rightB L x = false := by rw [Bool.eq_false_iff]; intro q; have := right_iff.1 q; omega
    rw [hrb] at hR
    rw [wt_out hu hr]
    have hraw := hide h.raw
    clear h
    go_enter Tryz.func84, Tryz.ntmps84
    go_wp2_with fail
    refine Calls.mono (hR.out _ hraw.out) ?_
    rintro e w1 ⟨rfl, rfl⟩
    go_wp2_with fail
    go_ret
    exact ⟨rfl, Below.refl _ _⟩
end Go.Proofs.YteebghoijaaakaaGreat
/- The walks of layer 8, on: the table made twice as great. By the prover of this repo. -/
namespace Go.Proofs.YteebghoijaaakaaGreat
open Go.RowKit
open TwigM RollM StoM

theorem occ_take (x : Int) (S : List Nd) (i : Nat) (hi : i < S.length) : wt x (occ (S.take (i + 1))) = wt x (occ (S.take i)) + (if idA S i = x ∧ 0 < cntA S i then cntA S i else 0) := by
  have e : S.take (i + 1) = S.take i ++ [S[i]] := List.take_succ_eq_append_getElem hi
  have e2 : occ (S.take i ++ [S[i]]) = occ (S.take i) ++ occ [S[i]] := by unfold occ; rw [List.filter_append]
  rw [e, e2, wt_append, wt_occ_cons]
  have h1 : idA S i = S[i].1 := by unfold idA; rw [getD_of hi]
  have h2 : cntA S i = S[i].2 := by unfold cntA; rw [getD_of hi]
  rw [h1, h2]
  show _ = _
  have : wt x (occ ([] : List Nd)) = 0 := rfl
  rw [this]; omega
/-- No earlier slot has that node. -/
theorem tab_fresh {hm : Int → Nat} {S l : List Nd} (h : Tab hm S l) {i : Nat} (hi : i < S.length) (hc : 0 < cntA S i) : wt (idA S i) (occ (S.take i)) = 0 := by
  refine wt_zero _ _ fun p hp e => ?_
  obtain ⟨j, hj, hcj, rfl⟩ := occ_mem.1 hp
  rw [List.length_take] at hj
  have hjl : j < S.length := by omega
  have e1 : idA (S.take i) j = idA S j := by
    unfold idA
    rw [List.getD_eq_getElem?_getD, List.getD_eq_getElem?_getD, List.getElem?_take_of_lt (by omega)]
  have e2 : cntA (S.take i) j = cntA S j := by
    unfold cntA
    rw [List.getD_eq_getElem?_getD, List.getD_eq_getElem?_getD, List.getElem?_take_of_lt (by omega)]
  rw [e2] at hcj
  have := h.one j i hjl hi hcj hc (by rw [← e1]; exact e)
  omega
theorem ndv_set (S : List Nd) (r : Nat) (p : Nd) (hr : r < S.length) : ((ndv S).toArray.setIfInBounds (r * 2) (.int .i64 p.1)).setIfInBounds (r * 2 + 1) (.int .i64 p.2) = (ndv (S.set r p)).toArray := by
  apply Array.ext_getElem?
  intro j
  have er : (ndv (S.set r p)).toArray[j]? = (ndv (S.set r p))[j]? := by simp
  rw [er, Array.getElem?_setIfInBounds, Array.getElem?_setIfInBounds]
  have hsz : (ndv S).toArray.size = S.length * 2 := by rw [List.size_toArray, ndv_length]
  rw [Array.size_setIfInBounds, hsz]
  have e2 : (ndv S).toArray[j]? = (ndv S)[j]? := by simp
  by_cases hj : j < S.length * 2
  · rw [ndv_get (S.set r p) j (by rw [List.length_set]; exact hj), e2, ndv_get S j hj]
    unfold ndc
    rw [getD_set]
    by_cases e1 : r * 2 + 1 = j
    · rw [if_pos e1, if_pos (by omega), if_neg (by omega), if_pos ⟨by omega, hr⟩]
    · rw [if_neg e1]
      by_cases e3 : r * 2 = j
      · rw [if_pos e3, if_pos (by omega), if_pos (by omega), if_pos ⟨by omega, hr⟩]
      · have hne : ¬ (r = j / 2 ∧ r < S.length) := by omega
        rw [if_neg e3, if_neg hne]
  · rw [List.getElem?_eq_none (by rw [ndv_length, List.length_set]; omega), if_neg (by omega), if_neg (by omega), e2, List.getElem?_eq_none (by rw [ndv_length]; omega)]
theorem ndv_setL (S : List Nd) (r : Nat) (p : Nd) (hr : r < S.length) : ((ndv S).set (r * 2) (.int .i64 p.1)).set (r * 2 + 1) (.int .i64 p.2) = ndv (S.set r p) := by
  have h := ndv_set S r p hr
  rw [List.setIfInBounds_toArray, List.setIfInBounds_toArray] at h
  exact congrArg Array.toList h
theorem PrbRaw.store {w : World} {g b k cp : Nat} {S : List Nd} {L u t : Int} (h : PrbRaw w g b k cp S L u t) {r : Nat} (hr : r < S.length) (p : Nd) :
    PrbRaw ((w.setCell ⟨b, r * 2, none⟩ (.int .i64 p.1)).setCell ⟨b, r * 2 + 1, none⟩ (.int .i64 p.2)) g b k cp (S.set r p) L u t := by
  have h1 := (h.blk.off (p := ⟨b, r * 2, none⟩) (Ne.symm h.ne) (.int .i64 p.1)).off (p := ⟨b, r * 2 + 1, none⟩) (Ne.symm h.ne) (.int .i64 p.2)
  have hz := ndv_length S
  have h2 : ArrL _ b _ := (ArrL.set h.arr (i := r * 2) (by omega) (.int .i64 p.1)).set (i := r * 2 + 1) (by rw [List.length_set]; omega) (.int .i64 p.2)
  rw [ndv_setL S r p hr] at h2
  exact ⟨h1, h2, h.ne, by rw [List.length_set]; exact h.len, h.k1, h.k2⟩
theorem PrbRaw.drew {w : World} {g b k cp : Nat} {S : List Nd} {L u t : Int} (h : PrbRaw w g b k cp S L u t) : PrbRaw w.drew g b k cp S L u t := ⟨h.blk, h.arr.drewN 1, h.ne, h.len, h.k1, h.k2⟩
theorem pow_succ' (k : Nat) : 2 ^ (k + 1) = 2 * 2 ^ k := by rw [Nat.pow_succ, Nat.mul_comm]
set_option maxRecDepth 100000 in
set_option maxHeartbeats 1000000 in
theorem probe_widen (g b k cp : Nat) (S : List Nd) (L u t : Int) (l : List Nd) (w : World) (h : PrbRaw w g b k cp S L u t) (hk : k < 40) (ht : Tab (hmF k) S l) (hc : Canon l) (hu : InU L l) (hL : L ≤ 48) :
    Calls Tryz.prog 130 #[.pointer (some ⟨g, 0, none⟩)] w fun e w' => (∃ v, e = .returned v) ∧ ∃ b' cp' S', PrbRaw w' g b' (k + 1) cp' S' L u t ∧ Tab (hmF (k + 1)) S' l ∧ w.heap.size ≤ b' ∧ Turn (fun j => j = g) w w' := by
  obtain ⟨-, c1, -, -, c4, f1, -, -, f4⟩ := h.cells
  obtain ⟨hbig1, hbig2⟩ := h.big
  have hp40 := pw_le48 hL
  have hlen := h.len
  have hne := h.ne
  have hps := pow_succ' k
  obtain ⟨N, hN⟩ : ∃ N, 2 ^ (k + 1) = N := ⟨_, rfl⟩
  have hwr : wrap64 ((2 : Int) ^ (k + 1)) = (N : Int) := by
    have e : ((2 : Int) ^ (k + 1)) = (N : Int) := by rw [← hN]; simp
    rw [e]
    exact wrap_in _ (by omega)
  have hmk : ∀ V : World, (Instr.makeSlice 64 (.int .i64 (N : Int)) (.int .i64 (N : Int))).run Tryz.prog V = .ok (.slice (some ⟨V.heap.size, 0, none⟩) N N) (V.alloc (.cells (ndv (List.replicate N (0, 0))).toArray 67)) := fun V => by
    have := make_nodes (N : Int) (by omega) (by omega) V
    rw [Int.toNat_natCast] at this
    exact this
  obtain ⟨n, hn⟩ : ∃ n, 2 ^ k = n := ⟨_, rfl⟩
  have hraw := hide h
  obtain ⟨hg1, hb1⟩ := h.lt
  rw [hn] at c4 hbig1 hbig2 hlen hps
  replace hN := hide hN
  replace hn := hide hn
  clear h
  go_enter Tryz.func130, Tryz.ntmps130
  go_wp2_with fail
  have hW0 : PrbRaw (((w.setCell ⟨g, 1, none⟩ (.int .i64 ((k : Int) + 1))).setCell ⟨g, 4, none⟩ (.slice (some ⟨w.heap.size, 0, none⟩) N N)).alloc (.cells (ndv (List.replicate N (0, 0))).toArray 67)) g w.heap.size (k + 1) N (List.replicate N (0, 0)) L u t := by
    have e := ((hraw.out.blk.set 1 (.int .i64 ((k : Int) + 1))).set 4 (.slice (some ⟨w.heap.size, 0, none⟩) N N)).alloc (.cells (ndv (List.replicate N (0, 0))).toArray 67)
    refine ⟨?_, Arr.of (Blk.made_at _ _ _ (by simp)), by omega, by rw [List.length_replicate, hN.out], by have := hraw.out.k1; omega, by omega⟩
    rw [hN.out]
    simpa using e
  have hT0 : Turn (fun j => j = g) w (((w.setCell ⟨g, 1, none⟩ (.int .i64 ((k : Int) + 1))).setCell ⟨g, 4, none⟩ (.slice (some ⟨w.heap.size, 0, none⟩) N N)).alloc (.cells (ndv (List.replicate N (0, 0))).toArray 67)) :=
    ((Turn.setCell w (fun j => j = g) ⟨g, 1, none⟩ _ rfl).trans (Turn.setCell _ (fun j => j = g) ⟨g, 4, none⟩ _ rfl) fun _ _ q => q).trans (Turn.alloc _ (fun j => j = g) _) fun _ _ q => q
  generalize ((w.setCell ⟨g, 1, none⟩ (.int .i64 ((k : Int) + 1))).setCell ⟨g, 4, none⟩ (.slice (some ⟨w.heap.size, 0, none⟩) N N)).alloc (.cells (ndv (List.replicate N (0, 0))).toArray 67) = W0 at hW0 hT0 ⊢
  obtain ⟨B, hB⟩ : ∃ B, Hid (w.heap.size = B) := ⟨_, rfl⟩
  rw [hB.out] at hW0 ⊢
  have hoc := hide (fun x i (hi : i < S.length) => occ_take x S i hi)
  have htb := hide ht
  have hfr := hide (fun i (hi : i < S.length) hc => tab_fresh ht hi hc)
  clear c1 f1 f4 c4 hmk hwr
  go_loopw [29] (fun iv wr => ∃ (i : Nat) (S' li : List Nd), iv = .int .i64 (i : Int) ∧ i ≤ n ∧ PrbRaw wr g B (k + 1) N S' L u t ∧ Hid (Tab (hmF (k + 1)) S' li) ∧ Canon li ∧ li.length ≤ i ∧ Hid (∀ y, wt y li = wt y (occ (S.take i))) ∧ Turn (fun j => j = g) w wr) (fun iv _ => n - (intOf iv).toNat)
  case atStart => exact ⟨0, _, [], rfl, Nat.zero_le _, hW0, Tab.nil _ _, Canon.nil, by simp, (fun y => rfl), hT0⟩
  case round =>
    clear hW0 hT0
    obtain ⟨i, S', li, rfl, hi, hr', hta, hcl, hll, hwt, htr⟩ := hrel
    have hbb : Arr wr b S := hraw.out.arr.turned htr hne
    have hsz := htr.size
    obtain ⟨-, -, -, -, c4, -⟩ := hr'.cells
    have hNl := hr'.len
    rw [hN.out] at c4 hNl
    have hgr := hr'.lt.1
    have hBr := hr'.lt.2
    have hblt := hbb.lt
    by_cases hlt : i < n
    · have hiS : i < S.length := by omega
      obtain ⟨d0, d1⟩ := nd_cells hbb hiS
      have hpos := htb.out.pos i
      by_cases hz : cntA S i = 0
      · have hwt2 : Hid (∀ y, wt y li = wt y (occ (S.take (i + 1)))) := fun y => by rw [hwt.out y, hoc.out y i hiS, if_neg (fun q => by omega)]; omega
        rw [hz] at d1
        generalize idA S i = ii at *
        have hrh := hide hr'
        have htrh := hide htr
        clear hr' htr hbb hpos hz
        go_wp2_with fail
        go_roundw
        case rel => exact ⟨i + 1, S', li, by go_num, by omega, hrh.out.kept (balloc0 _ _), hta, hcl, by omega, hwt2, htrh.out.trans (Turn.alloc _ (fun j => j = g) _) fun _ _ q => q⟩
        case measure => simp [intOf]; omega
      · have hcp : 0 < cntA S i := by omega
        have hat := htb.out.at hiS hcp
        have hin : 1 ≤ idA S i ∧ idA S i < 2 * pw L := by
          obtain ⟨p, hp, e⟩ := mem_wt (show wt (idA S i) l ≠ 0 by omega)
          rw [← e]; exact hu p hp
        have hfresh : Hid (wt (idA S i) li = 0) := by show _ = _; rw [hwt.out]; exact hfr.out i hiS hcp
        have hwt2 : Hid (∀ y, wt y (put (idA S i) (cntA S i) li) = wt y (occ (S.take (i + 1)))) := fun y => by
          rw [hoc.out y i hiS, wt_put, hwt.out y]
          simp only [hcp, and_true]
        have hcan : Hid (Canon (put (idA S i) (cntA S i) li)) := canon_put hcl hcp
        have hpl : Hid ((put (idA S i) (cntA S i) li).length ≤ i + 1) := by
          show _ ≤ _
          rw [len_put hcl, if_pos hfresh.out]; omega
        have hroom := hta.out.room hcl (by have := hN.out; omega)
        have hLk := hide (fun o => (hr'.kept (balloc0 wr o)).look (idA S i) hin.1 (by omega) hroom)
        have hlook := hide (fun (r : Nat) (q1 : r < S'.length) (q2 : stopB S' (idA S i) r = true) q3 => (hta.out.look (x := idA S i) (by rw [hNl, ← hN.out]; exact hmF_lt (k + 1) (by omega) _) q1 q2 q3).1)
        have hnew := hide (fun (r : Nat) (q1 : r < S'.length) (q2 : cntA S' r = 0) q3 => hta.out.new (x := idA S i) (c := cntA S i) hcp q1 q2 hfresh.out q3)
        generalize idA S i = ii at *
        generalize cntA S i = ci at *
        have hbox := fun (o : Obj) => hide (hr'.kept (balloc0 wr o))
        have hrh := hide hr'
        have htrh := hide htr
        clear hr' htr hbb hpos hz hat hroom hcl
        go_wp2_with fail
        refine Calls.mono (hLk.out _) ?_
        rintro e w2 ⟨⟨r, m, rfl, hr1, hr2, hr3⟩, hb2⟩
        have hc0 := hlook.out r hr1 hr2 hr3
        rw [hfresh.out] at hc0
        have htn := hide (hnew.out r hr1 hc0 hr3)
        have hr2' := (hbox (.cells #[.int .i64 ii, .int .i64 ci] 67)).out.kept hb2
        have hbx := (Blk.made wr 67 #[.int .i64 ii, .int .i64 ci]).kept hb2
        have x0 := hbx.cell 0
        have x1 := hbx.cell 1
        obtain ⟨-, -, -, -, c4', -⟩ := hr2'.cells
        rw [hN.out] at c4'
        rw [hNl] at hr1
        have hBr2 := hr2'.lt.2
        have hri : (r : Int) < (N : Int) := by omega
        have fz0 := hr2'.arr.free (r * 2)
        have fz1 := hr2'.arr.free (r * 2 + 1)
        have hdd := nd_cells hr2'.arr (i := r) (by omega)
        obtain ⟨y0, y1⟩ := hdd
        have hr2h := hide hr2'
        have htr2 := hide ((htrh.out.trans (Turn.alloc wr (fun j => j = g) (.cells #[.int .i64 ii, .int .i64 ci] 67)) fun _ _ q => q).trans (Below.turn hb2 (fun j => j = g)) fun _ _ q => q)
        clear hbox hr2 hr3 hb2 hr2' hbx hc0
        go_wp2_with fail
        go_region
        have hst := hide (hr2h.out.store (r := r) (by omega) (ii, ci))
        have hts := hide (htr2.out.trans ((Turn.setCell w2 (fun j => j = B) ⟨B, r * 2, none⟩ (.int .i64 ii) rfl).trans (Turn.setCell _ (fun j => j = B) ⟨B, r * 2 + 1, none⟩ (.int .i64 ci) rfl) fun _ _ q => q) (fun j q1 q2 => by have := hB.out; omega))
        clear x0 x1 y0 y1 fz0 fz1 c4' d0 d1
        go_wp2_with fail
        go_roundw
        case rel => exact ⟨i + 1, S'.set r (ii, ci), put ii ci li, by go_num, by omega, hst.out.drew, htn.out, hcan.out, hpl.out, hwt2, hts.out.drewN 1⟩
        case measure => simp [intOf]; omega
    · obtain rfl : i = n := by omega
      have hfin : Hid (Tab (hmF (k + 1)) S' l) := ⟨hta.out.pos, hta.out.path, hta.out.one, fun x => by rw [hta.out.same, hwt.out, List.take_of_length_le (by omega), htb.out.same]⟩
      have hrh := hide hr'
      have htrh := hide htr
      clear hr' htr hbb
      go_wp2_with fail
      go_end0
      exact ⟨⟨_, rfl⟩, B, N, S', hrh.out, hfin.out, by rw [← hB.out]; exact Nat.le_refl _, htrh.out⟩
end Go.Proofs.YteebghoijaaakaaGreat
/- The walks of layer 8, on: a node's weight more. By the prover of this repo. -/
namespace Go.Proofs.YteebghoijaaakaaGreat
open Go.RowKit
open TwigM RollM StoM

theorem ndv_set_c (S : List Nd) (r : Nat) (v : Int) (hr : r < S.length) : (ndv S).toArray.setIfInBounds (r * 2 + 1) (.int .i64 v) = (ndv (S.set r (idA S r, v))).toArray := by
  rw [← ndv_set S r (idA S r, v) hr]
  congr 1
  have e : (ndv S).toArray[r * 2]? = some (.int .i64 (idA S r)) := by
    rw [List.getElem?_toArray, ndv_get S (r * 2) (by omega)]
    unfold ndc idA
    rw [if_pos (by omega), show r * 2 / 2 = r by omega]
  apply Array.ext_getElem?
  intro j
  rw [Array.getElem?_setIfInBounds]
  by_cases h : r * 2 = j
  · subst h
    rw [if_pos rfl, e, if_pos (by rw [List.size_toArray, ndv_length]; omega)]
  · rw [if_neg h]
theorem ndv_set_i (S : List Nd) (r : Nat) (v : Int) (hr : r < S.length) : (ndv S).toArray.setIfInBounds (r * 2) (.int .i64 v) = (ndv (S.set r (v, cntA S r))).toArray := by
  rw [← ndv_set S r (v, cntA S r) hr]
  have e : (ndv S).toArray[r * 2 + 1]? = some (.int .i64 (cntA S r)) := by
    rw [List.getElem?_toArray, ndv_get S (r * 2 + 1) (by omega)]
    unfold ndc cntA
    rw [if_neg (by omega), show (r * 2 + 1) / 2 = r by omega]
  apply Array.ext_getElem?
  intro j
  rw [Array.getElem?_setIfInBounds, Array.getElem?_setIfInBounds, Array.getElem?_setIfInBounds, Array.size_setIfInBounds]
  by_cases h : r * 2 + 1 = j
  · subst h
    rw [if_pos rfl, if_neg (by omega), e, if_pos (by rw [List.size_toArray, ndv_length]; omega)]
  · rw [if_neg h]
section
variable {w : World} {g b k cp : Nat} {S : List Nd} {L u t : Int}
theorem PrbRaw.setU (h : PrbRaw w g b k cp S L u t) (u' : Int) : PrbRaw (w.setCell ⟨g, 2, none⟩ (.int .i64 u')) g b k cp S L u' t :=
  ⟨by simpa using h.blk.set 2 (.int .i64 u'), h.arr.off (p := ⟨g, 2, none⟩) h.ne _, h.ne, h.len, h.k1, h.k2⟩
theorem PrbRaw.setT (h : PrbRaw w g b k cp S L u t) (t' : Int) : PrbRaw (w.setCell ⟨g, 3, none⟩ (.int .i64 t')) g b k cp S L u t' :=
  ⟨by simpa using h.blk.set 3 (.int .i64 t'), h.arr.off (p := ⟨g, 3, none⟩) h.ne _, h.ne, h.len, h.k1, h.k2⟩
theorem PrbRaw.count (h : PrbRaw w g b k cp S L u t) {r : Nat} (hr : r < S.length) (v : Int) : PrbRaw (w.setCell ⟨b, r * 2 + 1, none⟩ (.int .i64 v)) g b k cp (S.set r (idA S r, v)) L u t := by
  have hz := ndv_length S
  have h2 : ArrL _ b _ := ArrL.set h.arr (i := r * 2 + 1) (by omega) (.int .i64 v)
  have e := ndv_set_c S r v hr
  rw [List.setIfInBounds_toArray] at e
  rw [show (ndv S).set (r * 2 + 1) (.int .i64 v) = ndv (S.set r (idA S r, v)) from congrArg Array.toList e] at h2
  exact ⟨h.blk.off (p := ⟨b, r * 2 + 1, none⟩) (Ne.symm h.ne) _, h2, h.ne, by rw [List.length_set]; exact h.len, h.k1, h.k2⟩
theorem PrbRaw.ident (h : PrbRaw w g b k cp S L u t) {r : Nat} (hr : r < S.length) (v : Int) : PrbRaw (w.setCell ⟨b, r * 2, none⟩ (.int .i64 v)) g b k cp (S.set r (v, cntA S r)) L u t := by
  have hz := ndv_length S
  have h2 : ArrL _ b _ := ArrL.set h.arr (i := r * 2) (by omega) (.int .i64 v)
  have e := ndv_set_i S r v hr
  rw [List.setIfInBounds_toArray] at e
  rw [show (ndv S).set (r * 2) (.int .i64 v) = ndv (S.set r (v, cntA S r)) from congrArg Array.toList e] at h2
  exact ⟨h.blk.off (p := ⟨b, r * 2, none⟩) (Ne.symm h.ne) _, h2, h.ne, by rw [List.length_set]; exact h.len, h.k1, h.k2⟩
theorem PrbRaw.drewN (h : PrbRaw w g b k cp S L u t) (m : Nat) : PrbRaw (w.drewN m) g b k cp S L u t := ⟨h.blk, h.arr.drewN m, h.ne, h.len, h.k1, h.k2⟩
/-- A node put into a slot, and the sum. -/
theorem PrbRaw.whole (h : PrbRaw w g b k cp S L u t) {r : Nat} (hr : r < S.length) (h0 : cntA S r = 0) (x c t' : Int) :
    PrbRaw (((w.setCell ⟨b, r * 2, none⟩ (.int .i64 x)).setCell ⟨b, r * 2 + 1, none⟩ (.int .i64 c)).setCell ⟨g, 3, none⟩ (.int .i64 t')) g b k cp (S.set r (x, c)) L u t' := by
  have h1 := h.ident hr x
  have h2 := h1.count (r := r) (by rw [List.length_set]; exact hr) c
  have e : idA (S.set r (x, cntA S r)) r = x := by unfold idA; rw [getD_set, if_pos ⟨rfl, hr⟩]
  rw [e, List.set_set] at h2
  exact h2.setT t'
end
theorem pow_lt40 {k : Nat} (h : k ≤ 26) : k < 40 := by omega
set_option maxRecDepth 100000 in
set_option maxHeartbeats 2000000 in
theorem probe_add (g b k cp : Nat) (S : List Nd) (L x c : Int) (l : List Nd) (w : World) (h : PrbAt w g b k cp S L l) (hcn : Canon l) (hu : InU L l) (hx1 : 1 ≤ x) (hx2 : x < 2 * pw L) (hc : 0 ≤ c) (hm : sumL l + c ≤ 72057594037927935) (hlen : l.length ≤ 1000000) (hk : k ≤ 26) :
    Calls Tryz.prog 86 #[.pointer (some ⟨g, 0, none⟩), .int .i64 x, .int .i64 c] w fun e w' => e = .returned (.int .i64 0) ∧ ∃ b' k' cp' S', PrbAt w' g b' k' cp' S' L (addS x c l) ∧ k' ≤ 26 ∧ (b' = b ∨ w.heap.size ≤ b') ∧ Turn (fun j => j = g ∨ j = b) w w' := by
  have hL48 := pw_le48 h.l2
  have hs0 := sumL_nonneg l hcn.cntL
  have hR := hide (fun W (hW : PrbRaw W g b k cp S L (l.length : Int) (sumL l)) => probe_right g b k cp S L (l.length : Int) (sumL l) x W hW)
  rw [right_mk h.l1 h.l2 hx1 hx2] at hR
  have hA := hide (fun W => reckon_add (sumL l) c W (by omega) (by omega))
  have hAF : addF (sumL l) c = (sumL l + c, true) := by unfold addF; rw [if_pos ⟨hs0, hc, by omega⟩]
  rw [hAF] at hA
  have hsum := sumL_addS x c l
  have hln := len_addS hcn x hc
  obtain ⟨-, -, -, c3, -, -, -, -, -⟩ := h.raw.cells
  have hh := hide h
  by_cases hc0 : c = 0
  · subst hc0
    have ha : addS x 0 l = l := by unfold addS; rw [if_pos rfl]
    rw [ha]
    clear h
    go_enter Tryz.func86, Tryz.ntmps86
    go_wp2_with fail
    refine Calls.mono (hR.out _ hh.out.raw) ?_
    rintro e w1 ⟨rfl, rfl⟩
    go_wp2_with fail
    refine Calls.mono (hA.out _) ?_
    rintro e w1 ⟨rfl, rfl⟩
    go_wp2_with fail
    go_ret
    exact ⟨rfl, b, k, cp, S, hh.out, hk, .inl rfl, Turn.refl _ _⟩
  · have hcp : 0 < c := by omega
    have ha : addS x c l = put x c l := by unfold addS; rw [if_neg hc0]
    have hcz : (c == 0) = false := by simpa using hc0
    have hLk := hide (h.raw.look x hx1 (by omega) (h.room hcn))
    have hhm := hmF_lt k (by omega) x
    have hlk := hide (fun (r : Nat) (q1 : r < S.length) (q2 : stopB S x r = true) q3 => h.tab.look (x := x) (by rw [h.raw.len]; exact hhm) q1 q2 q3)
    have hwp := wt_nonneg x l hcn.cntL
    have hwle : wt x l ≤ sumL l := by
      have := sumM_split (fun _ => 1) x l
      rw [← sumL_M] at this
      have h2 := sumM_nonneg (g := fun _ => 1) (l := del x l) (fun p hp => hcn.cntL p (del_mem.1 hp).1) (fun _ _ => by omega)
      omega
    obtain ⟨hbig1, hbig2⟩ := h.raw.big
    have hSl := h.raw.len
    have hhalf := h.half
    have hne := h.raw.ne
    obtain ⟨n, hn⟩ : ∃ n, 2 ^ k = n := ⟨_, rfl⟩
    rw [hn] at hbig1 hbig2 hSl
    replace hn := hide hn
    by_cases hz : wt x l = 0
    · rw [if_pos ⟨hz, hcp⟩] at hln
      have hln2 : (l.length : Int) + 1 = ((addS x c l).length : Int) := by omega
      by_cases hwd : n < 2 * (l.length + 1)
      · have hk21 : k < 21 := by
          refine Nat.not_le.1 fun q => ?_
          have := Nat.pow_le_pow_right (show 0 < 2 by omega) q
          rw [hn.out, show (2 : Nat) ^ 21 = 2097152 from rfl] at this
          omega
        have hwd2 : (n : Int) < 2 * ((l.length : Int) + 1) := by omega
        obtain ⟨N, hN⟩ : ∃ N, 2 ^ (k + 1) = N := ⟨_, rfl⟩
        have hN2 : Hid (N = 2 * n) := by show _ = _; rw [← hN, pow_succ', hn.out]
        have hl2 := h.l2
        clear h
        go_enter Tryz.func86, Tryz.ntmps86
        go_wp2_with fail
        refine Calls.mono (hR.out _ hh.out.raw) ?_
        rintro e w1 ⟨rfl, rfl⟩
        go_wp2_with fail
        refine Calls.mono (hA.out _) ?_
        rintro e w1 ⟨rfl, rfl⟩
        go_wp2_with fail
        refine Calls.mono hLk.out ?_
        rintro e w1 ⟨⟨r, m, rfl, hr1, hr2, hr3⟩, hb1⟩
        have hcr := (hlk.out r hr1 hr2 hr3).1
        rw [hz] at hcr
        have hraw1 := hh.out.raw.kept hb1
        obtain ⟨-, -, c2', c3', c4, -, f2, f3, -⟩ := hraw1.cells
        rw [hn.out] at c4
        obtain ⟨-, d1⟩ := nd_cells hraw1.arr hr1
        rw [hcr] at d1
        have hri : (r : Int) < (n : Int) := by omega
        obtain ⟨hg2, hb2⟩ := hraw1.lt
        have hrawu := hide (hraw1.setU ((l.length : Int) + 1))
        have htu := hide ((Below.turn hb1 (fun j => j = g)).trans (Turn.setCell w1 (fun j => j = g) ⟨g, 2, none⟩ (.int .i64 ((l.length : Int) + 1)) rfl) fun _ _ q => q)
        replace hln := hide hln
        replace hln2 := hide hln2
        replace hsum := hide hsum
        clear hr2 hr3 hb1 hraw1 hlk hLk
        go_wp2_with fail
        go_quiet (fail)
        have hraw3 := hide (hrawu.out.drewN nq)
        have htu3 := hide (htu.out.drewN nq)
        generalize (w1.setCell ⟨g, 2, none⟩ (.int .i64 ((l.length : Int) + 1))).drewN nq = W2 at hraw3 htu3 ⊢
        have hWd := hide (probe_widen g b k cp S L ((l.length : Int) + 1) (sumL l) l W2 hraw3.out (by omega) hh.out.tab hcn hu hl2)
        clear c2' c3' c4 f2 f3 d1 hcr
        go_wp2_with fail
        refine Calls.mono hWd.out ?_
        rintro e w3 ⟨⟨v, rfl⟩, b', cp3, S3, hr4, ht4, hb4, htu4⟩
        have hS3 := hr4.len
        rw [hN] at hS3
        have hL4 := hide (hr4.look x hx1 (by omega) (ht4.room hcn (by have := hN2.out; omega)))
        have hlk4 := hide (fun (r : Nat) (q1 : r < S3.length) (q2 : stopB S3 x r = true) q3 => (ht4.look (x := x) (by rw [hr4.len]; exact hmF_lt (k + 1) (by omega) x) q1 q2 q3).1)
        have hr4h := hide hr4
        have htu4h := hide htu4
        clear hr4 htu4
        go_wp2_with fail
        refine Calls.mono hL4.out ?_
        rintro e w4 ⟨⟨r4, m4, rfl, q1, q2, q3⟩, hb5⟩
        have hcr4 := hlk4.out r4 q1 q2 q3
        rw [hz] at hcr4
        have hr5 := hr4h.out.kept hb5
        obtain ⟨-, -, -, k3, k4, -, -, k6, -⟩ := hr5.cells
        have hne5 := hr5.ne
        rw [hN] at k4
        obtain ⟨e0, e1⟩ := nd_cells hr5.arr q1
        rw [hcr4] at e1
        have g5 := hr5.arr.free (r4 * 2)
        have g6 := hr5.arr.free (r4 * 2 + 1)
        obtain ⟨g8, g7⟩ := hr5.lt
        have hri4 : (r4 : Int) < (N : Int) := by omega
        have hfin := hide (hr5.whole q1 hcr4 x c (sumL l + c))
        have htab := hide (ht4.new hcp q1 hcr4 hz q3)
        have hb5h := hide hb5
        replace hN := hide hN
        clear hr5 hcr4 q2 q3 hb5 hlk4 hL4
        go_wp2_with fail
        go_ret
        refine ⟨rfl, b', k + 1, cp3, S3.set r4 (x, c), ⟨?_, by rw [ha]; exact htab.out, by rw [List.length_set, hln.out]; have := hN2.out; omega, hh.out.l1, hh.out.l2⟩, by omega, .inr (Nat.le_trans htu3.out.size hb4), ?_⟩
        · have q := hfin.out
          rw [← hln2.out, hsum.out]
          simpa using q
        · have t1 := htu3.out.trans htu4h.out fun _ _ q => q
          have t2 := t1.trans (Below.turn hb5h.out (fun j => j = g)) fun _ _ q => q
          exact (t2.more (T := fun j => j = g ∨ j = b) fun _ _ q => .inl q).trans (turn3 g b' w4 _ _ _ (.inr rfl) (.inr rfl) (.inl rfl)) fun j hj q => by
            rcases q with q | q
            · exact .inl q
            · exfalso
              have := htu3.out.size
              omega
      · clear h
        go_enter Tryz.func86, Tryz.ntmps86
        go_wp2_with fail
        refine Calls.mono (hR.out _ hh.out.raw) ?_
        rintro e w1 ⟨rfl, rfl⟩
        go_wp2_with fail
        refine Calls.mono (hA.out _) ?_
        rintro e w1 ⟨rfl, rfl⟩
        go_wp2_with fail
        refine Calls.mono hLk.out ?_
        rintro e w1 ⟨⟨r, m, rfl, hr1, hr2, hr3⟩, hb1⟩
        have hcr := (hlk.out r hr1 hr2 hr3).1
        rw [hz] at hcr
        have hraw1 := hh.out.raw.kept hb1
        obtain ⟨-, -, c2', c3', c4, -, f2, f3, -⟩ := hraw1.cells
        rw [hn.out] at c4
        obtain ⟨-, d1⟩ := nd_cells hraw1.arr hr1
        rw [hcr] at d1
        have hri : (r : Int) < (n : Int) := by omega
        obtain ⟨hg2, hb2⟩ := hraw1.lt
        have hrawu := hide (hraw1.setU ((l.length : Int) + 1))
        have htu := hide ((Below.turn hb1 (fun j => j = g)).trans (Turn.setCell w1 (fun j => j = g) ⟨g, 2, none⟩ (.int .i64 ((l.length : Int) + 1)) rfl) fun _ _ q => q)
        have htab := hide (hh.out.tab.new hcp hr1 hcr hz hr3)
        have hwd2 : ¬ (n : Int) < 2 * ((l.length : Int) + 1) := by omega
        replace hln := hide hln
        replace hln2 := hide hln2
        replace hsum := hide hsum
        clear hr2 hr3 hb1 hraw1 hlk hLk
        go_wp2_with fail
        go_quiet (fail)
        have hraw3 := hide (hrawu.out.drewN nq)
        have htu3 := hide (htu.out.drewN nq)
        generalize (w1.setCell ⟨g, 2, none⟩ (.int .i64 ((l.length : Int) + 1))).drewN nq = W2 at hraw3 htu3 ⊢
        have hr3' := hraw3.out
        obtain ⟨-, -, -, k3, k4, -, -, k6, -⟩ := hr3'.cells
        rw [hn.out] at k4
        obtain ⟨e0, e1⟩ := nd_cells hr3'.arr hr1
        rw [hcr] at e1
        have g5 := hr3'.arr.free (r * 2)
        have g6 := hr3'.arr.free (r * 2 + 1)
        have g7 := hr3'.lt.2
        have hfin := hide (hr3'.whole hr1 hcr x c (sumL l + c))
        clear hr3' c2' c3' c4 f2 f3 d1 hcr
        go_wp2_with fail
        go_ret
        refine ⟨rfl, b, k, cp, S.set r (x, c), ⟨?_, by rw [ha]; exact htab.out, by rw [List.length_set, hln.out]; omega, hh.out.l1, hh.out.l2⟩, hk, .inl rfl, ?_⟩
        · have q := hfin.out
          rw [← hln2.out, hsum.out]
          simpa using q
        · exact (htu3.out.more (T := fun j => j = g ∨ j = b) fun _ _ q => .inl q).trans (turn3 g b W2 _ _ _ (.inr rfl) (.inr rfl) (.inl rfl)) fun _ _ q => q
    · rw [if_neg (fun q => hz q.1)] at hln
      have hzf : (wt x l == 0) = false := by simpa using hz
      clear h
      go_enter Tryz.func86, Tryz.ntmps86
      go_wp2_with fail
      refine Calls.mono (hR.out _ hh.out.raw) ?_
      rintro e w1 ⟨rfl, rfl⟩
      go_wp2_with fail
      refine Calls.mono (hA.out _) ?_
      rintro e w1 ⟨rfl, rfl⟩
      go_wp2_with fail
      refine Calls.mono hLk.out ?_
      rintro e w1 ⟨⟨r, m, rfl, hr1, hr2, hr3⟩, hb1⟩
      obtain ⟨hcr, hir⟩ := hlk.out r hr1 hr2 hr3
      have hir := hir hz
      have hraw1 := hh.out.raw.kept hb1
      obtain ⟨-, -, -, c3', c4, -, -, f3, -⟩ := hraw1.cells
      rw [hn.out] at c4
      obtain ⟨-, d1⟩ := nd_cells hraw1.arr hr1
      have f5 := hraw1.arr.free (r * 2 + 1)
      have hri : (r : Int) < (n : Int) := by omega
      obtain ⟨hg2, hb2⟩ := hraw1.lt
      have hfin := hide (hraw1.count hr1 (cntA S r + c) |>.setT (sumL l + c))
      rw [hir] at hfin
      rw [hcr] at d1
      have htab := hide (hh.out.tab.more hcp hr1 (by omega) hir)
      have hrawh := hide hraw1
      have hb1h := hide hb1
      replace hcr := hide hcr
      replace hir := hide hir
      replace hln := hide hln
      replace hsum := hide hsum
      clear hr2 hr3 hb1 hraw1 hlk hLk
      go_wp2_with fail
      go_ret
      refine ⟨rfl, b, k, cp, S.set r (x, cntA S r + c), ⟨?_, by rw [ha]; exact htab.out, by rw [List.length_set, hln.out]; exact hhalf, hh.out.l1, hh.out.l2⟩, hk, .inl rfl, ?_⟩
      · have q := hfin.out
        rw [hcr.out] at q
        rw [hcr.out, hln.out, hsum.out]
        exact q
      · exact (Below.turn hb1h.out _).trans (turn2 g b w1 _ _ (.inr rfl) (.inl rfl)) fun _ _ q => q
end Go.Proofs.YteebghoijaaakaaGreat
/- The walks of layer 8, on: a node taken away; all nodes, by rising numbers. By the prover of this repo. -/
namespace Go.Proofs.YteebghoijaaakaaGreat
open Go.RowKit
open TwigM RollM StoM

theorem probe_way (g b k cp i j : Nat) (w : World) (hk : k ≤ 40) (hi : i < 2 ^ k) (hj : j < 2 ^ k) (c4 : w.cell? ⟨g, 4, none⟩ = some (.slice (some ⟨b, 0, none⟩) (2 ^ k) cp)) :
    Calls Tryz.prog 169 #[.pointer (some ⟨g, 0, none⟩), .int .i64 (i : Int), .int .i64 (j : Int)] w fun e w' => e = .returned (.int .i64 (wayN (2 ^ k) i j : Int)) ∧ w = w' := by
  have hp : 2 ^ k ≤ 2 ^ 40 := Nat.pow_le_pow_right (by omega) hk
  have hm := and_mask ((j : Int) - (i : Int)) k (by omega)
  rw [way_mod hi hj] at hm
  have hpos : 0 < 2 ^ k := Nat.two_pow_pos k
  rw [show (2 : Nat) ^ 40 = 1099511627776 from rfl] at hp
  generalize 2 ^ k = n at *
  go_enter Tryz.func169, Tryz.ntmps169
  go_wp2_with fail
  go_ret
  exact ⟨rfl, rfl⟩
theorem quiet_same {P : Program} {f : FuncId} {args : Array Value} {w : World} {n : Nat} {v : Value} (h : Calls P f args (w.drewN n) fun e w' => e = .returned v ∧ w.drewN n = w') : Calls P f args (w.drewN n) fun e w'' => e = .returned v ∧ ∃ m, w'' = w.drewN m :=
  h.mono fun _ _ ⟨he, hm⟩ => ⟨he, n, hm.symm⟩
theorem hol_in {hm : Int → Nat} {S l : List Nd} {h i j : Nat} {L : Int} (H : Hol hm S l h i) (hu : InU L l) (hj : j < S.length) (hc : 0 < cntA S j) : 1 ≤ idA S j ∧ idA S j < 2 * pw L := by
  have hp : (idA S j, cntA S j) ∈ occ S := occ_mem.2 ⟨j, hj, hc, rfl⟩
  have h1 := wt_ge hp occ_cntL
  simp only [] at h1
  rw [H.same] at h1
  obtain ⟨p, hp2, e⟩ := mem_wt (show wt (idA S j) l ≠ 0 by omega)
  rw [← e]; exact hu p hp2
theorem way_self (n a : Nat) : wayN n a a = 0 := by unfold wayN; rw [if_pos (Nat.le_refl _)]; omega
theorem way_zero {n a b : Nat} (ha : a < n) (hb : b < n) (h : wayN n a b = 0) : a = b := by
  unfold wayN at h
  split at h <;> omega
/-- One step on, as seen from a hole. -/
theorem way_on {n h i e : Nat} (hh : h < n) (hi : i < n) (he : e < n) (hie : i ≠ e) (hle : wayN n h i ≤ wayN n h e) : nxtN n i ≠ h ∧ wayN n h (nxtN n i) ≤ wayN n h e ∧ nxtN n i < n := by
  unfold wayN nxtN at *
  split at hle <;> split at hle <;> split <;> (refine ⟨by omega, ?_, by omega⟩; first | omega | (split <;> first | omega | (split <;> omega)))
theorem way_one {n h e : Nat} (hh : h < n) (he : e < n) (hne : h ≠ e) (h2 : 2 ≤ n) : nxtN n h ≠ h ∧ wayN n h (nxtN n h) ≤ wayN n h e ∧ nxtN n h < n := by
  unfold wayN nxtN
  split <;> (refine ⟨by omega, ?_, by omega⟩; first | omega | (split <;> first | omega | (split <;> omega)))
set_option maxRecDepth 100000 in
set_option maxHeartbeats 2000000 in
theorem probe_take (g b k cp : Nat) (S : List Nd) (L x : Int) (l : List Nd) (w : World) (h : PrbAt w g b k cp S L l) (hcn : Canon l) (hu : InU L l) (hm : sumL l ≤ 72057594037927935) (hlen : l.length ≤ 1000000) (hk : k ≤ 26) :
    Calls Tryz.prog 124 #[.pointer (some ⟨g, 0, none⟩), .int .i64 x] w fun e w' => e = .returned (.int .i64 (wt x l)) ∧ ∃ S', PrbAt w' g b k cp S' L (del x l) ∧ Turn (fun j => j = g ∨ j = b) w w' := by
  have hL48 := pw_le48 h.l2
  have hR := hide (fun W (hW : PrbRaw W g b k cp S L (l.length : Int) (sumL l)) => probe_right g b k cp S L (l.length : Int) (sumL l) x W hW)
  have hh := hide h
  by_cases hr : 1 ≤ x ∧ x < 2 * pw L
  · rw [right_mk h.l1 h.l2 hr.1 hr.2] at hR
    obtain ⟨e0, he0, hce0⟩ := h.room hcn
    have hLk := hide (h.raw.look x hr.1 (by omega) ⟨e0, he0, hce0⟩)
    have hhm := hmF_lt k (by omega) x
    have hlk := hide (fun (r : Nat) (q1 : r < S.length) (q2 : stopB S x r = true) q3 => h.tab.look (x := x) (by rw [h.raw.len]; exact hhm) q1 q2 q3)
    obtain ⟨hbig1, hbig2⟩ := h.raw.big
    have hSl := h.raw.len
    have hhalf := h.half
    have hne := h.raw.ne
    have hNx := hide (fun (i : Nat) (hi : i < 2 ^ k) (W : World) (c4 : W.cell? ⟨g, 4, none⟩ = some (.slice (some ⟨b, 0, none⟩) (2 ^ k) cp)) => probe_next g b k cp i W (by omega) hi c4)
    have hWy := hide (fun (i j : Nat) (hi : i < 2 ^ k) (hj : j < 2 ^ k) (W : World) (c4 : W.cell? ⟨g, 4, none⟩ = some (.slice (some ⟨b, 0, none⟩) (2 ^ k) cp)) => probe_way g b k cp i j W (by omega) hi hj c4)
    have hk3 := h.raw.k1
    have hHm := hide (fun (y : Int) (h1 : 1 ≤ y) (h2 : y ≤ 9223372036854775807) (W : World) => probe_home k y W (by omega) (by omega) h1 h2)
    have hml := hide (fun (y : Int) => hmF_lt k (by omega) y)
    obtain ⟨n, hn⟩ : ∃ n, 2 ^ k = n := ⟨_, rfl⟩
    rw [hn] at hbig1 hbig2 hSl hNx hWy hml
    replace hn := hide hn
    by_cases hz : wt x l = 0
    · rw [hz, del_none hcn hz]
      clear h
      go_enter Tryz.func124, Tryz.ntmps124
      go_wp2_with fail
      refine Calls.mono (hR.out _ hh.out.raw) ?_
      rintro e w1 ⟨rfl, rfl⟩
      go_wp2_with fail
      refine Calls.mono hLk.out ?_
      rintro e w1 ⟨⟨r, m, rfl, hr1, hr2, hr3⟩, hb1⟩
      have hcr := (hlk.out r hr1 hr2 hr3).1
      rw [hz] at hcr
      have hraw1 := hh.out.raw.kept hb1
      obtain ⟨-, -, -, -, c4, -⟩ := hraw1.cells
      rw [hn.out] at c4
      obtain ⟨-, d1⟩ := nd_cells hraw1.arr hr1
      rw [hcr] at d1
      have hri : (r : Int) < (n : Int) := by omega
      have hb2 := hraw1.lt.2
      have hb1h := hide hb1
      clear hraw1 hb1
      go_wp2_with fail
      go_ret
      exact ⟨rfl, S, hh.out.kept hb1h.out, Below.turn hb1h.out _⟩
    · have hwp : 0 < wt x l := by have := wt_nonneg x l hcn.cntL; omega
      have hwle : wt x l ≤ sumL l := by
        have := sumM_split (fun _ => 1) x l
        rw [← sumL_M] at this
        have h2 := sumM_nonneg (g := fun _ => 1) (l := del x l) (fun p hp => hcn.cntL p (del_mem.1 hp).1) (fun _ _ => by omega)
        omega
      have hln := len_del hcn x
      rw [if_neg hz] at hln
      have hpos : 0 < l.length := by obtain ⟨p, hp, _⟩ := mem_wt hz; exact List.length_pos_of_mem hp
      have hl' : Hid ((l.length : Int) - 1 = ((del x l).length : Int)) := by show _ = _; omega
      have hsm : Hid (sumL (del x l) = sumL l - wt x l) := sumL_del x l
      have hud := hide (inU_del hu x)
      have hzf : (wt x l == 0) = false := by simpa using hz
      clear h
      go_enter Tryz.func124, Tryz.ntmps124
      go_wp2_with fail
      refine Calls.mono (hR.out _ hh.out.raw) ?_
      rintro e w1 ⟨rfl, rfl⟩
      go_wp2_with fail
      refine Calls.mono hLk.out ?_
      rintro e w1 ⟨⟨r, m, rfl, hr1, hr2, hr3⟩, hb1⟩
      obtain ⟨hcr, hir⟩ := hlk.out r hr1 hr2 hr3
      have hir := hir hz
      have hraw1 := hh.out.raw.kept hb1
      obtain ⟨-, -, -, -, c4, -⟩ := hraw1.cells
      have c4n := hide c4
      rw [hn.out] at c4
      obtain ⟨d0, d1⟩ := nd_cells hraw1.arr hr1
      have hrn : r < n := by omega
      have hri : (r : Int) < (n : Int) := by omega
      have f5 := hraw1.arr.free (r * 2)
      have f6 := hraw1.arr.free (r * 2 + 1)
      obtain ⟨hg2, hb2⟩ := hraw1.lt
      have hst : Hid (PrbRaw ((w1.setCell ⟨b, r * 2, none⟩ (.int .i64 0)).setCell ⟨b, r * 2 + 1, none⟩ (.int .i64 0)) g b k cp (S.set r (0, 0)) L (l.length : Int) (sumL l)) := hraw1.store hr1 (0, 0)
      have hhole := hh.out.tab.hole hr1 (by omega)
      rw [hir] at hhole
      have hre : r ≠ e0 := fun e => by subst e; omega
      have hhole := hide hhole
      have hce : Hid (cntA (S.set r (0, 0)) e0 = 0) := by
        show _ = _
        unfold cntA
        rw [getD_set, if_neg (fun q => hre q.1)]
        exact hce0
      have htu := hide ((Below.turn hb1 (fun j => j = g ∨ j = b)).trans (turn2 g b w1 (x := ⟨b, r * 2, none⟩) (y := ⟨b, r * 2 + 1, none⟩) (.int .i64 0) (.int .i64 0) (.inr rfl) (.inr rfl)) fun _ _ q => q)
      rw [hcr] at d1
      replace hcr := hide hcr
      clear hr2 hr3 hb1 hraw1 hlk hLk
      go_wp2_with fail
      have hS1 : (S.set r (0, 0)).length = n := by rw [List.length_set]; exact hSl
      generalize (w1.setCell ⟨b, r * 2, none⟩ (.int .i64 0)).setCell ⟨b, r * 2 + 1, none⟩ (.int .i64 0) = W2 at hst htu ⊢
      generalize hS1' : S.set r (0, 0) = S1 at *
      replace hS1' := hide hS1'
      have k4 := hst.out.cells.2.2.2.2.1
      rw [hn.out] at k4
      have hN1 := hide (hNx.out r hrn W2 k4)
      have hw1 := way_one hrn (show e0 < n by omega) hre (by omega)
      clear c4 d0 d1 f5 f6 k4
      refine Calls.mono hN1.out ?_
      rintro e w2 ⟨rfl, rfl⟩
      go_wp2_with fail
      go_loopw [5, 8] (fun hv iv wr => ∃ (hl i : Nat) (S' : List Nd), hv = .int .i64 (hl : Int) ∧ iv = .int .i64 (i : Int) ∧ hl < n ∧ i < n ∧ S'.length = n ∧ PrbRaw wr g b k cp S' L (l.length : Int) (sumL l) ∧ Hid (Hol (hmF k) S' (del x l) hl i) ∧ Hid (cntA S' e0 = 0) ∧ hl ≠ e0 ∧ i ≠ hl ∧ wayN n hl i ≤ wayN n hl e0 ∧ Turn (fun j => j = g ∨ j = b) w wr) (fun _ iv _ => wayN n (intOf iv).toNat e0)
      case atStart => exact ⟨r, nxtN n r, S1, rfl, rfl, hrn, hw1.2.2, hS1, hst.out, by rw [← hSl]; exact hhole.out, hce.out, hre, hw1.1, hw1.2.1, htu.out⟩
      case round =>
        clear hst htu hhole hce hw1 hN1 hS1 hS1' hri
        obtain ⟨hl, i, S', rfl, rfl, hhl, hi, hSl', hraw, hhol, hce, hhe, hih, hwl, htr⟩ := hrel
        obtain ⟨-, c1, c2, c3, c4, -, f2, f3, -⟩ := hraw.cells
        rw [hn.out] at c4
        obtain ⟨d0, d1⟩ := nd_cells hraw.arr (i := i) (by omega)
        obtain ⟨hg2, hb2⟩ := hraw.lt
        have hri : (i : Int) < (n : Int) := by omega
        have hp := hhol.out.pos i
        by_cases hc : cntA S' i = 0
        · have htab := hide (hhol.out.shut (by omega) (by omega) hih hc (fun y => by rw [hSl']; exact hml.out y))
          have hfin := hide ((hraw.setU ((l.length : Int) - 1)).setT (sumL l - wt x l))
          have htf := hide (htr.trans (turn2 g b wr (x := ⟨g, 2, none⟩) (y := ⟨g, 3, none⟩) (.int .i64 ((l.length : Int) - 1)) (.int .i64 (sumL l - wt x l)) (.inl rfl) (.inl rfl)) fun _ _ q => q)
          rw [hc] at d1
          replace hl' := hl'
          clear hraw hhol htr hp hc
          go_wp2_with fail
          go_ret
          refine ⟨rfl, S', ⟨?_, htab.out, by rw [hSl']; omega, hh.out.l1, hh.out.l2⟩, htf.out⟩
          rw [← hl'.out, hsm.out]
          exact hfin.out
        · have hcp : 0 < cntA S' i := by omega
          obtain ⟨hid1, hid2⟩ := hol_in hhol.out hud.out (by omega) hcp
          have hie : i ≠ e0 := fun q => by subst q; exact hc hce.out
          have hH1 := hide (fun W => hHm.out (idA S' i) hid1 (by omega) W)
          have hwon := way_on hhl hi (show e0 < n by omega) hie hwl
          go_wp2_with fail
          go_quiet ((go_at_call 168; exact quiet_same (hH1.out _)))
          go_wp2_with fail
          have hraw3 := hide (hraw.drewN nq)
          have htr3 := hide (htr.drewN nq)
          clear hraw htr c1 c2 c3 c4 f2 f3 d0 d1
          generalize wr.drewN nq = W3 at hraw3 htr3 ⊢
          have hr3' := hraw3.out
          obtain ⟨-, -, -, -, k4, -, -, -, -⟩ := hr3'.cells
          rw [hn.out] at k4
          have hh1 := hml.out (idA S' i)
          have hA1 := hide (hWy.out (hmF k (idA S' i)) hl hh1 hhl W3 k4)
          have hA2 := hide (hWy.out (hmF k (idA S' i)) i hh1 hi W3 k4)
          obtain ⟨d0, d1⟩ := nd_cells hr3'.arr (i := i) (by omega)
          obtain ⟨y0, y1⟩ := nd_cells hr3'.arr (i := hl) (by omega)
          have z0 := hr3'.arr.free (i * 2)
          have z1 := hr3'.arr.free (i * 2 + 1)
          have z2 := hr3'.arr.free (hl * 2)
          have z3 := hr3'.arr.free (hl * 2 + 1)
          have hb3 := hr3'.lt.2
          have hg3 := hr3'.lt.1
          have hli : (hl : Int) < (n : Int) := by omega
          by_cases hle : wayN n (hmF k (idA S' i)) hl ≤ wayN n (hmF k (idA S' i)) i
          · have hmv := hide (hhol.out.move (by omega) (by omega) hih hcp (fun y => by rw [hSl']; exact hml.out y) (by rw [hSl']; exact hle))
            have hst1 : PrbRaw ((W3.setCell ⟨b, hl * 2, none⟩ (.int .i64 (idA S' i))).setCell ⟨b, hl * 2 + 1, none⟩ (.int .i64 (cntA S' i))) g b k cp (S'.set hl (S'.getD i (0, 0))) L (l.length : Int) (sumL l) := hr3'.store (by omega) (S'.getD i (0, 0))
            have hst2 : Hid (PrbRaw ((((W3.setCell ⟨b, hl * 2, none⟩ (.int .i64 (idA S' i))).setCell ⟨b, hl * 2 + 1, none⟩ (.int .i64 (cntA S' i))).setCell ⟨b, i * 2, none⟩ (.int .i64 0)).setCell ⟨b, i * 2 + 1, none⟩ (.int .i64 0)) g b k cp ((S'.set hl (S'.getD i (0, 0))).set i (0, 0)) L (l.length : Int) (sumL l)) := hst1.store (by rw [List.length_set]; omega) (0, 0)
            have htt := hide ((htr3.out.trans (turn2 g b W3 (x := ⟨b, hl * 2, none⟩) (y := ⟨b, hl * 2 + 1, none⟩) (.int .i64 (idA S' i)) (.int .i64 (cntA S' i)) (.inr rfl) (.inr rfl)) fun _ _ q => q).trans (turn2 g b _ (x := ⟨b, i * 2, none⟩) (y := ⟨b, i * 2 + 1, none⟩) (.int .i64 0) (.int .i64 0) (.inr rfl) (.inr rfl)) fun _ _ q => q)
            have hce2 : Hid (cntA ((S'.set hl (S'.getD i (0, 0))).set i (0, 0)) e0 = 0) := by
              show _ = _
              unfold cntA
              rw [getD_set, getD_set, if_neg (fun q => hie q.1), if_neg (fun q => hhe q.1)]
              exact hce.out
            have hlen2 : Hid (((S'.set hl (S'.getD i (0, 0))).set i (0, 0)).length = n) := by show _ = _; rw [List.length_set, List.length_set]; exact hSl'
            have hw1 := hide (way_one hi (show e0 < n by omega) hie (by omega))
            have hdist : hl * 2 ≠ i * 2 := by omega
            have hwm := hide (way_nxt hi (show e0 < n by omega) hie).1
            rw [hSl'] at hmv
            generalize idA S' i = ii at *
            generalize cntA S' i = ci at *
            generalize hmF k ii = h1 at *
            generalize (S'.set hl (S'.getD i (0, 0))).set i (0, 0) = S'' at *
            clear hst1 hhol hr3' hwon hH1 hce
            refine Calls.mono hA1.out ?_
            rintro e w5 ⟨rfl, rfl⟩
            go_wp2_with fail
            refine Calls.mono hA2.out ?_
            rintro e w5 ⟨rfl, rfl⟩
            go_wp2_with fail
            go_region
            have hst3 := hide hst2.out.drew
            have htt3 := hide (htt.out.drewN 1)
            have e1 : ∀ V : World, V.drewN 1 = V.drew := fun _ => rfl
            rw [e1] at htt3
            clear hst2 htt d0 d1 y0 y1 z0 z1 z2 z3 k4
            generalize ((((W3.setCell ⟨b, hl * 2, none⟩ (.int .i64 ii)).setCell ⟨b, hl * 2 + 1, none⟩ (.int .i64 ci)).setCell ⟨b, i * 2, none⟩ (.int .i64 0)).setCell ⟨b, i * 2 + 1, none⟩ (.int .i64 0)).drew = W4 at hst3 htt3 ⊢
            have k4 := hst3.out.cells.2.2.2.2.1
            rw [hn.out] at k4
            have hN1 := hide (hNx.out i hi W4 k4)
            go_wp2_with fail
            refine Calls.mono hN1.out ?_
            rintro e w5 ⟨rfl, rfl⟩
            go_wp2_with fail
            go_roundw
            case rel => exact ⟨i, nxtN n i, S'', rfl, rfl, hi, hw1.out.2.2, hlen2.out, hst3.out, hmv.out, hce2.out, hie, hw1.out.1, hw1.out.2.1, htt3.out⟩
            case measure =>
              have := hwm.out
              simp [intOf]; omega
          · have hsy := hide (hhol.out.stay (by omega) (by omega) hih hcp (by rw [hSl']; exact hwon.1) (fun y => by rw [hSl']; exact hml.out y) (by rw [hSl']; exact hle))
            have hwm := hide (way_nxt hi (show e0 < n by omega) hie).1
            have hN1 := hide (hNx.out i hi W3 k4)
            rw [hSl'] at hsy
            generalize hmF k (idA S' i) = h1 at *
            clear hhol hr3' hH1
            refine Calls.mono hA1.out ?_
            rintro e w5 ⟨rfl, rfl⟩
            go_wp2_with fail
            refine Calls.mono hA2.out ?_
            rintro e w5 ⟨rfl, rfl⟩
            go_wp2_with fail
            refine Calls.mono hN1.out ?_
            rintro e w5 ⟨rfl, rfl⟩
            go_wp2_with fail
            go_roundw
            case rel => exact ⟨hl, nxtN n i, S', rfl, rfl, hhl, hwon.2.2, hSl', hraw3.out, hsy.out, hce, hhe, hwon.1, hwon.2.1, htr3.out⟩
            case measure =>
              have := hwm.out
              simp [intOf]; omega
  · have hrb : rightB L x = false := by rw [Bool.eq_false_iff]; intro q; have := right_iff.1 q; omega
    rw [hrb] at hR
    have hz := wt_out hu hr
    rw [hz, del_none hcn hz]
    clear h
    go_enter Tryz.func124, Tryz.ntmps124
    go_wp2_with fail
    refine Calls.mono (hR.out _ hh.out.raw) ?_
    rintro e w1 ⟨rfl, rfl⟩
    go_wp2_with fail
    go_ret
    exact ⟨rfl, S, hh.out, Turn.refl _ _⟩
end Go.Proofs.YteebghoijaaakaaGreat

/- Part 10 of the proof: texts joined by this repo's tools/merge.py (Dens Prb). By the prover of this repo. -/
import Derived.Test.YtfjgpjgphdiliaaGreatM5
import Derived.Test.YtfjgpjgphdiliaaGreatM9
import Derived.Test.YtfjgpjgphdiliaaGreatM1
import Derived.Laws.MakeOwn
import Derived.Test.YtfjgpjgphdiliaaGreatM6
import Derived.WalkMore
set_option linter.unusedVariables false
set_option linter.unusedSimpArgs false
/- The walks of layer 7: the array with a place for each node. By the prover of this repo. -/
namespace Go.Proofs.YtfjgpjgphdiliaaGreat
open Go.RowKit
open TwigM RollM StoM

/-- All blocks but some are as they were. -/
structure Turn (S : Nat → Prop) (w w' : World) : Prop where
  os : w'.os = w.os
  tape : w'.tape = w.tape
  output : w'.output = w.output
  size : w.heap.size ≤ w'.heap.size
  block : ∀ k, k < w.heap.size → ¬ S k → w'.heap[k]? = w.heap[k]?
section
variable {S T : Nat → Prop} {w w1 w2 : World}
theorem Turn.refl (S : Nat → Prop) (w : World) : Turn S w w := ⟨rfl, rfl, rfl, Nat.le_refl _, fun _ _ _ => rfl⟩
theorem Turn.trans (h : Turn S w w1) (k : Turn T w1 w2) (hs : ∀ j, j < w.heap.size → T j → S j) : Turn S w w2 :=
  ⟨k.os.trans h.os, k.tape.trans h.tape, k.output.trans h.output, Nat.le_trans h.size k.size, fun j hj hn => (k.block j (Nat.lt_of_lt_of_le hj h.size) fun e => hn (hs j hj e)).trans (h.block j hj hn)⟩
theorem Turn.more (h : Turn S w w1) (hs : ∀ j, j < w.heap.size → S j → T j) : Turn T w w1 :=
  ⟨h.os, h.tape, h.output, h.size, fun j hj hn => h.block j hj fun e => hn (hs j hj e)⟩
theorem Below.turn (h : Below w.heap.size w w1) (S : Nat → Prop) : Turn S w w1 := ⟨h.os, h.tape, h.output, h.size, fun j hj _ => h.block j hj⟩
theorem Turn.below (h : Turn S w w1) (B : Nat) (hB : B ≤ w.heap.size) (hs : ∀ j, j < B → ¬ S j) : Below B w w1 := ⟨h.os, h.tape, h.output, h.size, fun j hj => h.block j (Nat.lt_of_lt_of_le hj hB) (hs j hj)⟩
theorem Turn.setCell (w : World) (S : Nat → Prop) (a : Addr) (u : Value) (hs : S a.block) : Turn S w (w.setCell a u) :=
  ⟨rfl, rfl, rfl, by simp, fun k _ hn => Below.heap_setCell w a u k fun e => hn (by rw [e]; exact hs)⟩
theorem Turn.alloc (w : World) (S : Nat → Prop) (o : Obj) : Turn S w (w.alloc o) := Below.turn (balloc0 w o) S
theorem Turn.drewN (h : Turn S w w1) (n : Nat) : Turn S w (w1.drewN n) := ⟨h.os, h.tape, h.output, h.size, h.block⟩
theorem Blk.turned {g : Nat} {t : TypeId} {cs : Array Value} (h : Blk w g t cs) (k : Turn S w w1) (hn : ¬ S g) : Blk w1 g t cs := (k.block g h.lt hn).trans h
end

/-- The array's cells. -/
def denCs (L : Int) (l : List Nd) : Array Value := ((List.range (2 * pw L).toNat).map fun i : Nat => Value.int .i64 (wt i l)).toArray
theorem denCs_size (L : Int) (l : List Nd) : (denCs L l).size = (2 * pw L).toNat := by simp [denCs]
theorem denCs_get (L : Int) (l : List Nd) (i : Nat) (h : i < (2 * pw L).toNat) : (denCs L l)[i]? = some (.int .i64 (wt i l)) := by
  unfold denCs
  rw [List.getElem?_toArray, List.getElem?_map, List.getElem?_range h]; rfl
theorem denCs_set (L : Int) (l l' : List Nd) (i : Nat) (v : Int) (h : ∀ k : Nat, wt k l' = if i = k then v else wt k l) : (denCs L l).setIfInBounds i (.int .i64 v) = denCs L l' := by
  apply Array.ext_getElem?
  intro k
  rw [Array.getElem?_setIfInBounds, denCs_size]
  by_cases hk : k < (2 * pw L).toNat
  · rw [denCs_get L l' k hk, denCs_get L l k hk, h k]
    by_cases e : i = k
    · subst e; rw [if_pos rfl, if_pos rfl, if_pos hk]
    · rw [if_neg e, if_neg e]
  · rw [Array.getElem?_eq_none (by rw [denCs_size]; omega), Array.getElem?_eq_none (by rw [denCs_size]; omega)]
    split <;> (try split) <;> first | rfl | omega
/-- A store of an array, in block g; its array in block b. -/
structure DenAt (w : World) (g b : Nat) (L : Int) (l : List Nd) : Prop where
  blk : Blk w g 122 #[.int .i64 L, .int .i64 (l.length : Int), .int .i64 (sumL l), .slice (some ⟨b, 0, none⟩) (2 * pw L).toNat (2 * pw L).toNat]
  arr : Blk w b 3 (denCs L l)
  ne : b ≠ g
  l1 : 1 ≤ L
  l2 : L ≤ 16
theorem dense_new_no (L : Int) (w : World) (h : ¬ (1 ≤ L ∧ L ≤ 16)) : Calls Tryz.prog 53 #[.int .i64 L] w fun e w' => e = .returned (.tuple #[.pointer none, .int .i64 2]) ∧ w = w' := by
  by_cases h1 : 1 ≤ L
  · have h2 : 16 < L := by omega
    clear h
    go_enter Tryz.func53, Tryz.ntmps53
    go_wp2_with fail
    go_ret2
    exact ⟨rfl, rfl⟩
  · clear h
    go_enter Tryz.func53, Tryz.ntmps53
    go_wp2_with fail
    go_ret2
    exact ⟨rfl, rfl⟩
theorem make_ints (n : Int) (h0 : 0 ≤ n) (h1 : n ≤ 16777216) (V : World) : (Instr.makeSlice 72 (.int .i64 n) (.int .i64 n)).run Tryz.prog V = .ok (.slice (some ⟨V.heap.size, 0, none⟩) n.toNat n.toNat) (V.alloc (.cells (madeCells #[.int .i64 0] n.toNat) 3)) := by
  obtain ⟨i, hi, hz, hs, hb⟩ := info_parts (show (Tryz.prog.info? 3).map (fun i => (i.zero, i.size, i.bytes)) = some (some (.int .i64 0), 1, 8) by kernel_rfl)
  have h := run_make (P := Tryz.prog) V 72 3 i (.int .i64 0) Tryz.underlying72 hi hz .i64 .i64 n n h0 (Int.le_refl _) (by rw [hb]; omega) (by omega)
  rw [hs, Nat.mul_one] at h
  exact h
theorem made_den (L : Int) : madeCells #[.int .i64 0] (2 * pw L).toNat = denCs L [] := by
  apply Array.ext_getElem?
  intro k
  by_cases hk : k < (2 * pw L).toNat
  · rw [denCs_get L [] k hk]
    unfold madeCells
    simp [hk, Nat.mod_one, wt]
  · rw [Array.getElem?_eq_none (by rw [size_madeCells]; omega), Array.getElem?_eq_none (by rw [denCs_size]; omega)]
set_option maxRecDepth 100000 in
theorem dense_new (L : Int) (w : World) (h1 : 1 ≤ L) (h2 : L ≤ 16) : Calls Tryz.prog 53 #[.int .i64 L] w fun e w' =>
    ∃ g b, e = .returned (.tuple #[.pointer (some ⟨g, 0, none⟩), .int .i64 0]) ∧ DenAt w' g b L [] ∧ w.heap.size ≤ g ∧ w.heap.size ≤ b ∧ Below w.heap.size w w' := by
  have hp : (2 : Int) ^ L.toNat = pw L := rfl
  have hp1 := pw_pos L
  have hp2 : pw L ≤ pw 16 := pw_mono h2
  rw [show pw 16 = 65536 from rfl] at hp2
  have hmk := make_ints (2 * pw L) (by omega) (by omega) w
  rw [made_den] at hmk
  go_enter Tryz.func53, Tryz.ntmps53
  go_wp2_with fail
  go_ret2
  have hb0 := balloc0 w (.cells (denCs L []) 3)
  refine ⟨w.heap.size + 1, w.heap.size, rfl, ⟨Blk.made_at _ _ _ (by simp), (Blk.made w _ _).alloc _, by omega, h1, h2⟩, by omega, Nat.le_refl _, balloc hb0 _⟩
section
variable {w : World} {g b : Nat} {L : Int} {l : List Nd}
theorem DenAt.lt (h : DenAt w g b L l) : g < w.heap.size ∧ b < w.heap.size := ⟨h.blk.lt, h.arr.lt⟩
theorem DenAt.turned {w' : World} {S : Nat → Prop} (h : DenAt w g b L l) (k : Turn S w w') (h1 : ¬ S g) (h2 : ¬ S b) : DenAt w' g b L l := ⟨h.blk.turned k h1, h.arr.turned k h2, h.ne, h.l1, h.l2⟩
theorem DenAt.kept {w' : World} (h : DenAt w g b L l) (k : Below w.heap.size w w') : DenAt w' g b L l := ⟨h.blk.kept k, h.arr.kept k, h.ne, h.l1, h.l2⟩
theorem DenAt.cells (h : DenAt w g b L l) : w.cell? ⟨g, 0, none⟩ = some (.int .i64 L) ∧ w.cell? ⟨g, 1, none⟩ = some (.int .i64 (l.length : Int)) ∧ w.cell? ⟨g, 2, none⟩ = some (.int .i64 (sumL l)) ∧ w.cell? ⟨g, 3, none⟩ = some (.slice (some ⟨b, 0, none⟩) (2 * pw L).toNat (2 * pw L).toNat) ∧
    w.frozen? ⟨g, 1, none⟩ = false ∧ w.frozen? ⟨g, 2, none⟩ = false := ⟨h.blk.cell 0, h.blk.cell 1, h.blk.cell 2, h.blk.cell 3, h.blk.free 1, h.blk.free 2⟩
theorem DenAt.at (h : DenAt w g b L l) {id : Nat} (hi : (id : Int) < 2 * pw L) : w.cell? ⟨b, id, none⟩ = some (.int .i64 (wt id l)) ∧ w.frozen? ⟨b, id, none⟩ = false := by
  refine ⟨?_, h.arr.free id⟩
  rw [h.arr.cell id, denCs_get L l id (by omega)]
end
theorem wt_out {L : Int} {l : List Nd} (hu : InU L l) {id : Int} (h : ¬ (1 ≤ id ∧ id < 2 * pw L)) : wt id l = 0 :=
  wt_zero id l fun p hp e => h (by have := hu p hp; omega)
set_option maxRecDepth 100000 in
theorem dense_get (g b : Nat) (L id : Int) (l : List Nd) (w : World) (h : DenAt w g b L l) (hu : InU L l) (hid : id ≤ 9223372036854775807) :
    Calls Tryz.prog 73 #[.pointer (some ⟨g, 0, none⟩), .int .i64 id] w fun e w' => e = .returned (.int .i64 (wt id l)) ∧ w = w' := by
  obtain ⟨c0, _, _, c3, _, _⟩ := h.cells
  have hl1 := h.l1
  have hl2 := h.l2
  have hR := hide (fun W => right_c L id W)
  by_cases hr : 1 ≤ id ∧ id < 2 * pw L
  · have hrb : rightB L id = true := right_mk hl1 (by omega) hr.1 hr.2
    rw [hrb] at hR
    obtain ⟨n, rfl⟩ := Int.eq_ofNat_of_zero_le (show 0 ≤ id by omega)
    obtain ⟨cc, _⟩ := h.at hr.2
    have hn1 : (n : Int) < ((2 * pw L).toNat : Int) := by omega
    clear h
    generalize (2 * pw L).toNat = N at *
    go_enter Tryz.func73, Tryz.ntmps73
    go_wp2_with fail
    refine Calls.mono (hR.out _) ?_
    rintro e w1 ⟨rfl, rfl⟩
    go_wp2_with fail
    go_ret
    exact ⟨rfl, rfl⟩
  · have hrb : rightB L id = false := by rw [Bool.eq_false_iff]; intro k; have := right_iff.1 k; omega
    rw [hrb] at hR
    rw [wt_out hu hr]
    clear h
    go_enter Tryz.func73, Tryz.ntmps73
    go_wp2_with fail
    refine Calls.mono (hR.out _) ?_
    rintro e w1 ⟨rfl, rfl⟩
    go_wp2_with fail
    go_ret
    exact ⟨rfl, rfl⟩

/-- A node more, or none. -/
def addS (id c : Int) (l : List Nd) : List Nd := if c = 0 then l else put id c l
theorem wt_addS (k id c : Int) (l : List Nd) : wt k (addS id c l) = wt k l + if id = k then c else 0 := by
  unfold addS
  split
  · rename_i h; rw [h]; split <;> omega
  · exact wt_put k id c l
theorem sumL_addS (id c : Int) (l : List Nd) : sumL (addS id c l) = sumL l + c := by
  unfold addS
  split
  · omega
  · exact sumL_put id c l
theorem canon_addS {l : List Nd} (h : Canon l) {id c : Int} (hc : 0 ≤ c) : Canon (addS id c l) := by
  unfold addS
  split
  · exact h
  · exact canon_put h (by omega)
theorem inU_addS {L : Int} {l : List Nd} (h : InU L l) {id c : Int} (h1 : 1 ≤ id) (h2 : id < 2 * pw L) : InU L (addS id c l) := by
  unfold addS
  split
  · exact h
  · exact inU_put h h1 h2
theorem len_addS {l : List Nd} (h : Canon l) (id : Int) {c : Int} (hc : 0 ≤ c) : (addS id c l).length = l.length + if wt id l = 0 ∧ 0 < c then 1 else 0 := by
  unfold addS
  by_cases h0 : c = 0
  · rw [if_pos h0, if_neg (fun k => by omega)]; rfl
  · rw [if_neg h0, len_put h]
    by_cases hz : wt id l = 0
    · rw [if_pos hz, if_pos ⟨hz, by omega⟩]
    · rw [if_neg hz, if_neg (fun k => hz k.1)]
theorem del_none {l : List Nd} (h : Canon l) {id : Int} (hz : wt id l = 0) : del id l = l := by
  unfold del
  rw [List.filter_eq_self]
  intro p hp
  have h1 := wt_mem h hp
  have h2 := h.cnt p hp
  rw [decide_eq_true_eq]
  intro e
  rw [e] at h1
  omega
section
variable {w : World} {g b : Nat} {L : Int} {l : List Nd}
theorem DenAt.put (h : DenAt w g b L l) {id : Nat} {l' : List Nd} (hw : ∀ k : Nat, wt k l' = if id = k then wt id l' else wt k l) :
    DenAt (((w.setCell ⟨g, 1, none⟩ (.int .i64 (l'.length : Int))).setCell ⟨b, id, none⟩ (.int .i64 (wt id l'))).setCell ⟨g, 2, none⟩ (.int .i64 (sumL l'))) g b L l' := by
  have h1 := ((h.blk.set 1 (.int .i64 (l'.length : Int))).off (p := ⟨b, id, none⟩) (Ne.symm h.ne) (.int .i64 (wt id l'))).set 2 (.int .i64 (sumL l'))
  have h2 := ((h.arr.off (p := ⟨g, 1, none⟩) h.ne (.int .i64 (l'.length : Int))).set id (.int .i64 (wt id l'))).off (p := ⟨g, 2, none⟩) h.ne (.int .i64 (sumL l'))
  rw [denCs_set L l l' id (wt id l') hw] at h2
  exact ⟨by simpa using h1, h2, h.ne, h.l1, h.l2⟩
theorem DenAt.put2 (h : DenAt w g b L l) {id : Nat} {l' : List Nd} (hw : ∀ k : Nat, wt k l' = if id = k then wt id l' else wt k l) (hlen : l'.length = l.length) :
    DenAt ((w.setCell ⟨b, id, none⟩ (.int .i64 (wt id l'))).setCell ⟨g, 2, none⟩ (.int .i64 (sumL l'))) g b L l' := by
  have h1 := (h.blk.off (p := ⟨b, id, none⟩) (Ne.symm h.ne) (.int .i64 (wt id l'))).set 2 (.int .i64 (sumL l'))
  have h2 := (h.arr.set id (.int .i64 (wt id l'))).off (p := ⟨g, 2, none⟩) h.ne (.int .i64 (sumL l'))
  rw [denCs_set L l l' id (wt id l') hw] at h2
  rw [← hlen] at h1
  exact ⟨by simpa using h1, h2, h.ne, h.l1, h.l2⟩
theorem DenAt.cut (h : DenAt w g b L l) {id : Nat} {l' : List Nd} (hw : ∀ k : Nat, wt k l' = if id = k then wt id l' else wt k l) :
    DenAt (((w.setCell ⟨b, id, none⟩ (.int .i64 (wt id l'))).setCell ⟨g, 1, none⟩ (.int .i64 (l'.length : Int))).setCell ⟨g, 2, none⟩ (.int .i64 (sumL l'))) g b L l' := by
  have h1 := ((h.blk.off (p := ⟨b, id, none⟩) (Ne.symm h.ne) (.int .i64 (wt id l'))).set 1 (.int .i64 (l'.length : Int))).set 2 (.int .i64 (sumL l'))
  have h2 := ((h.arr.set id (.int .i64 (wt id l'))).off (p := ⟨g, 1, none⟩) h.ne (.int .i64 (l'.length : Int))).off (p := ⟨g, 2, none⟩) h.ne (.int .i64 (sumL l'))
  rw [denCs_set L l l' id (wt id l') hw] at h2
  exact ⟨by simpa using h1, h2, h.ne, h.l1, h.l2⟩
end
theorem turn2 (g b : Nat) (w : World) {x y : Addr} (u v : Value) (hx : x.block = g ∨ x.block = b) (hy : y.block = g ∨ y.block = b) : Turn (fun j => j = g ∨ j = b) w ((w.setCell x u).setCell y v) :=
  (Turn.setCell w _ x u hx).trans (Turn.setCell _ _ y v hy) fun _ _ h => h
theorem turn3 (g b : Nat) (w : World) {x y z : Addr} (u v t : Value) (hx : x.block = g ∨ x.block = b) (hy : y.block = g ∨ y.block = b) (hz : z.block = g ∨ z.block = b) : Turn (fun j => j = g ∨ j = b) w (((w.setCell x u).setCell y v).setCell z t) :=
  (turn2 g b w u v hx hy).trans (Turn.setCell _ _ z t hz) fun _ _ h => h
set_option maxRecDepth 100000 in
set_option maxHeartbeats 1000000 in
theorem dense_add (g b : Nat) (L id c : Int) (l : List Nd) (w : World) (h : DenAt w g b L l) (hcn : Canon l) (hid1 : 1 ≤ id) (hid2 : id < 2 * pw L) (hc : 0 ≤ c) (hm : sumL l + c ≤ 72057594037927935) (hlen : l.length ≤ 1000000000) :
    Calls Tryz.prog 75 #[.pointer (some ⟨g, 0, none⟩), .int .i64 id, .int .i64 c] w fun e w' => e = .returned (.int .i64 0) ∧ DenAt w' g b L (addS id c l) ∧ Turn (fun j => j = g ∨ j = b) w w' := by
  obtain ⟨c0, c1, c2, c3, f1, f2⟩ := h.cells
  have hl1 := h.l1
  have hl2 := h.l2
  have hs0 := sumL_nonneg l hcn.cntL
  have hR := hide (fun W => right_c L id W)
  rw [right_mk hl1 (by omega) hid1 hid2] at hR
  have hA := hide (fun W => reckon_add (sumL l) c W (by omega) (by omega))
  have hAF : addF (sumL l) c = (sumL l + c, true) := by unfold addF; rw [if_pos ⟨hs0, hc, by omega⟩]
  rw [hAF] at hA
  have hw0 := wt_nonneg id l hcn.cntL
  have hwm := wt_addS id id c l
  rw [if_pos rfl] at hwm
  have hwle : wt id l ≤ sumL l := by
    have := sumM_split (fun _ => 1) id l
    rw [← sumL_M] at this
    have h2 := sumM_nonneg (g := fun _ => 1) (l := del id l) (fun p hp => hcn.cntL p (del_mem.1 hp).1) (fun _ _ => by omega)
    omega
  have hsum := sumL_addS id c l
  have hln := len_addS hcn id hc
  obtain ⟨n, rfl⟩ := Int.eq_ofNat_of_zero_le (show 0 ≤ id by omega)
  obtain ⟨cc, fc⟩ := h.at hid2
  have hwk : ∀ k : Nat, wt k (addS (n : Int) c l) = if n = k then wt n (addS (n : Int) c l) else wt k l := fun k => by
    by_cases e : n = k
    · subst e; rw [if_pos rfl]
    · rw [if_neg e, wt_addS, if_neg (by omega)]; omega
  have hn1 : (n : Int) < ((2 * pw L).toNat : Int) := by omega
  have hne := h.ne
  generalize (2 * pw L).toNat = N at *
  have hh := hide h
  clear h
  replace hwk := hide hwk
  by_cases hz : wt n l = 0
  · by_cases hcp : 0 < c
    · have hl' : (l.length : Int) + 1 = ((addS (n : Int) c l).length : Int) := by rw [hln, if_pos ⟨hz, hcp⟩]; omega
      have hput := hide (hh.out.put hwk.out)
      rw [← hl', hwm, hsum, hz] at hput
      rw [hz] at cc
      replace hl' := hide hl'
      replace hln := hide hln
      replace hwm := hide hwm
      replace hsum := hide hsum
      clear hw0
      go_enter Tryz.func75, Tryz.ntmps75
      go_wp2_with fail
      refine Calls.mono (hR.out _) ?_
      rintro e w1 ⟨rfl, rfl⟩
      go_wp2_with fail
      refine Calls.mono (hA.out _) ?_
      rintro e w1 ⟨rfl, rfl⟩
      go_wp2_with fail
      go_ret
      refine ⟨rfl, by simpa using hput.out, turn3 g b _ _ _ _ (.inl rfl) (.inr rfl) (.inl rfl)⟩
    · obtain rfl : c = 0 := by omega
      have hput := hide (hh.out.put2 hwk.out (by rw [hln, if_neg (fun k => by omega)]; rfl))
      rw [hwm, hsum, hz] at hput
      rw [hz] at cc
      replace hln := hide hln
      replace hwm := hide hwm
      replace hsum := hide hsum
      clear hw0
      go_enter Tryz.func75, Tryz.ntmps75
      go_wp2_with fail
      refine Calls.mono (hR.out _) ?_
      rintro e w1 ⟨rfl, rfl⟩
      go_wp2_with fail
      refine Calls.mono (hA.out _) ?_
      rintro e w1 ⟨rfl, rfl⟩
      go_wp2_with fail
      go_ret
      refine ⟨rfl, by simpa using hput.out, turn2 g b _ _ _ (.inr rfl) (.inl rfl)⟩
  · have hput := hide (hh.out.put2 hwk.out (by rw [hln, if_neg (fun k => hz k.1)]; rfl))
    rw [hwm, hsum] at hput
    have hz2 : (wt n l == 0) = false := by simpa using hz
    replace hln := hide hln
    replace hwm := hide hwm
    replace hsum := hide hsum
    generalize wt n l = W0 at *
    go_enter Tryz.func75, Tryz.ntmps75
    go_wp2_with fail
    refine Calls.mono (hR.out _) ?_
    rintro e w1 ⟨rfl, rfl⟩
    go_wp2_with fail
    refine Calls.mono (hA.out _) ?_
    rintro e w1 ⟨rfl, rfl⟩
    go_wp2_with fail
    go_ret
    refine ⟨rfl, by simpa using hput.out, turn2 g b _ _ _ (.inr rfl) (.inl rfl)⟩
set_option maxRecDepth 100000 in
set_option maxHeartbeats 1000000 in
theorem dense_take (g b : Nat) (L id : Int) (l : List Nd) (w : World) (h : DenAt w g b L l) (hcn : Canon l) (hu : InU L l) (hm : sumL l ≤ 72057594037927935) (hid : id ≤ 9223372036854775807) (hlen : l.length ≤ 1000000000) :
    Calls Tryz.prog 89 #[.pointer (some ⟨g, 0, none⟩), .int .i64 id] w fun e w' => e = .returned (.int .i64 (wt id l)) ∧ DenAt w' g b L (del id l) ∧ Turn (fun j => j = g ∨ j = b) w w' := by
  obtain ⟨c0, c1, c2, c3, f1, f2⟩ := h.cells
  have hG := hide (dense_get g b L id l w h hu hid)
  have hw0 := wt_nonneg id l hcn.cntL
  by_cases hz : wt id l = 0
  · rw [hz] at hG ⊢
    rw [del_none hcn hz]
    have hh := hide h
    clear h
    go_enter Tryz.func89, Tryz.ntmps89
    go_wp2_with fail
    refine Calls.mono hG.out ?_
    rintro e w1 ⟨rfl, rfl⟩
    go_wp2_with fail
    go_ret
    exact ⟨rfl, hh.out, Turn.refl _ _⟩
  · have hwp : 0 < wt id l := by omega
    have hr : 1 ≤ id ∧ id < 2 * pw L := by
      obtain ⟨p, hp, e⟩ := mem_wt hz
      rw [← e]; exact hu p hp
    have hwle : wt id l ≤ sumL l := by
      have := sumM_split (fun _ => 1) id l
      rw [← sumL_M] at this
      have h2 := sumM_nonneg (g := fun _ => 1) (l := del id l) (fun p hp => hcn.cntL p (del_mem.1 hp).1) (fun _ _ => by omega)
      omega
    have hln := len_del hcn id
    rw [if_neg hz] at hln
    have hpos : 0 < l.length := by obtain ⟨p, hp, _⟩ := mem_wt hz; exact List.length_pos_of_mem hp
    have hl' : (l.length : Int) - 1 = ((del id l).length : Int) := by omega
    have hsm := sumL_del id l
    obtain ⟨n, rfl⟩ := Int.eq_ofNat_of_zero_le (show 0 ≤ id by omega)
    obtain ⟨cc, fc⟩ := h.at hr.2
    have hwd := wt_del n n l
    rw [if_pos rfl] at hwd
    have hput := hide (h.cut (id := n) (l' := del (n : Int) l) (fun k => by
      by_cases e : n = k
      · subst e; rw [if_pos rfl]
      · rw [if_neg e, wt_del, if_neg (by omega)]))
    rw [← hl', hwd, hsm] at hput
    have hn1 : (n : Int) < ((2 * pw L).toNat : Int) := by omega
    have hne := h.ne
    generalize (2 * pw L).toNat = N at *
    clear h
    replace hl' := hide hl'
    replace hsm := hide hsm
    replace hwd := hide hwd
    replace hln := hide hln
    generalize wt n l = W0 at *
    go_enter Tryz.func89, Tryz.ntmps89
    go_wp2_with fail
    refine Calls.mono hG.out ?_
    rintro e w1 ⟨rfl, rfl⟩
    go_wp2_with fail
    go_ret
    refine ⟨rfl, by simpa using hput.out, turn3 g b _ _ _ _ (.inr rfl) (.inl rfl) (.inl rfl)⟩
theorem dense_l (g b : Nat) (L : Int) (l : List Nd) (w : World) (h : DenAt w g b L l) : Calls Tryz.prog 62 #[.pointer (some ⟨g, 0, none⟩)] w fun e w' => e = .returned (.int .i64 L) ∧ w = w' := by
  obtain ⟨c0, -, -, -, -, -⟩ := h.cells
  clear h
  go_enter Tryz.func62, Tryz.ntmps62
  go_wp2_with fail
  go_ret
  exact ⟨rfl, rfl⟩
theorem dense_len (g b : Nat) (L : Int) (l : List Nd) (w : World) (h : DenAt w g b L l) : Calls Tryz.prog 97 #[.pointer (some ⟨g, 0, none⟩)] w fun e w' => e = .returned (.int .i64 (l.length : Int)) ∧ w = w' := by
  obtain ⟨-, c1, -, -, -, -⟩ := h.cells
  clear h
  go_enter Tryz.func97, Tryz.ntmps97
  go_wp2_with fail
  go_ret
  exact ⟨rfl, rfl⟩
theorem dense_total (g b : Nat) (L : Int) (l : List Nd) (w : World) (h : DenAt w g b L l) : Calls Tryz.prog 71 #[.pointer (some ⟨g, 0, none⟩)] w fun e w' => e = .returned (.int .i64 (sumL l)) ∧ w = w' := by
  obtain ⟨-, -, c2, -, -, -⟩ := h.cells
  clear h
  go_enter Tryz.func71, Tryz.ntmps71
  go_wp2_with fail
  go_ret
  exact ⟨rfl, rfl⟩
/-- The nodes below a number. -/
def ltL (i : Int) (l : List Nd) : List Nd := l.filter fun p => decide (p.1 < i)
theorem ltL_none {i : Int} {l : List Nd} (h : ∀ p ∈ l, i ≤ p.1) : ltL i l = [] := by
  unfold ltL
  rw [List.filter_eq_nil_iff]
  intro p hp k
  have := h p hp
  have := of_decide_eq_true k
  omega
theorem ltL_all {i : Int} {l : List Nd} (h : ∀ p ∈ l, p.1 < i) : ltL i l = l := by
  unfold ltL
  rw [List.filter_eq_self]
  intro p hp
  exact decide_eq_true (h p hp)
theorem ltL_len (i : Int) (l : List Nd) : (ltL i l).length ≤ l.length := List.length_filter_le _ _
theorem ltL_succ (i : Int) : ∀ {l : List Nd}, Canon l → ltL (i + 1) l = ltL i l ++ if wt i l = 0 then [] else [(i, wt i l)]
  | [], _ => by simp [ltL, wt]
  | p :: l, h => by
    obtain ⟨h1, h2⟩ := List.pairwise_cons.1 h.rise
    have hc := h.cnt p (by simp)
    have ih := ltL_succ i (l := l) ⟨h2, fun q hq => h.cnt q (by simp [hq])⟩
    have hcons : ∀ j, ltL j (p :: l) = if p.1 < j then p :: ltL j l else ltL j l := fun j => by
      unfold ltL
      by_cases e : p.1 < j
      · rw [List.filter_cons_of_pos (by simpa using e), if_pos e]
      · rw [List.filter_cons_of_neg (by simpa using e), if_neg e]
    rw [hcons, hcons]
    rcases Int.lt_trichotomy p.1 i with e | e | e
    · have hwc : wt i (p :: l) = wt i l := by rw [wt, if_neg (show ¬ p.1 = i by omega), Int.zero_add]
      rw [if_pos (by omega), if_pos e, ih, hwc, List.cons_append]
    · have hn : wt i l = 0 := wt_zero i l fun q hq => by have := h1 q hq; omega
      have hno : ltL i l = [] := ltL_none fun q hq => by have := h1 q hq; omega
      have hwc : wt i (p :: l) = p.2 := by rw [wt, if_pos e, hn]; omega
      rw [if_pos (by omega), if_neg (by omega), ih, hn, if_pos rfl, hno, hwc, if_neg (by omega)]
      subst e
      rfl
    · have hn : wt i l = 0 := wt_zero i l fun q hq => by have := h1 q hq; omega
      have hwc : wt i (p :: l) = wt i l := by rw [wt, if_neg (show ¬ p.1 = i by omega), Int.zero_add]
      rw [if_neg (by omega), if_neg (by omega), ih, hwc]
set_option maxRecDepth 100000 in
set_option maxHeartbeats 1000000 in
theorem dense_snap (g b : Nat) (L : Int) (l : List Nd) (w : World) (h : DenAt w g b L l) (hcn : Canon l) (hu : InU L l) (hlen : l.length ≤ 1000000) :
    Calls Tryz.prog 87 #[.pointer (some ⟨g, 0, none⟩)] w fun e w' => ∃ v, e = .returned v ∧ w'.ownsRow w.heap.size 76 2 v l.length (ndv l) ∧ Below w.heap.size w w' := by
  obtain ⟨-, -, -, c3, -, -⟩ := h.cells
  have hl1 := h.l1
  have hp : pw L ≤ 65536 := by have := pw_mono h.l2; rwa [show pw 16 = 65536 from rfl] at this
  have hp1 := pw_pos L
  have hat := hide (fun (W : World) (hW : Below w.heap.size w W) (i : Nat) (hi : (i : Int) < 2 * pw L) => ((h.kept hW).at hi).1)
  have hz : Hid (ltL 0 l = []) := ltL_none fun p hp => by have := hu p hp; omega
  have hall : Hid (ltL (((2 * pw L).toNat : Nat) : Int) l = l) := ltL_all fun p hp => by have := hu p hp; omega
  have hsucc := hide (fun i => ltL_succ i hcn)
  have hlt := hide (fun i => ltL_len i l)
  have hwp := hide (fun i => wt_nonneg i l hcn.cntL)
  obtain ⟨N, hN⟩ : ∃ N, (2 * pw L).toNat = N := ⟨_, rfl⟩
  have hN1 : Hid ((N : Int) = 2 * pw L) := by show _ = _; omega
  have hN2 : N ≤ 131072 := by omega
  have hblt : b < w.heap.size := h.lt.2
  rw [hN] at c3 hall
  clear hN h hp hp1
  go_enter Tryz.func87, Tryz.ntmps87
  go_wp2_with fail
  go_loopw [3, 13] (fun out k wr => ∃ (i : Nat), k = .int .i64 i ∧ i ≤ N ∧ wr.ownsRow w.heap.size 76 2 out (ltL i l).length (ndv (ltL i l)) ∧ Below w.heap.size w wr) (fun _ k _ => N - (intOf k).toNat)
  case atStart => exact ⟨0, rfl, Nat.zero_le _, by rw [show ((0 : Nat) : Int) = 0 from rfl, hz.out]; exact World.ownsRow_nil _ _ _ _, Below.refl _ _⟩
  case round =>
    obtain ⟨i, rfl, hi, how, hbel⟩ := hrel
    have hsz := hbel.size
    have hb2 : b < wr.heap.size := by omega
    by_cases hlt2 : i < N
    · have cc := hat.out wr hbel i (by rw [← hN1.out]; omega)
      have hs := hide (hsucc.out i)
      have hl0 := hlt.out i
      have hw0 := hwp.out i
      by_cases h0 : wt i l = 0
      · have hs2 : Hid (ltL ((i : Int) + 1) l = ltL i l) := by show _ = _; rw [hs.out, if_pos h0, List.append_nil]
        rw [h0] at cc
        generalize ltL (i : Int) l = acc at *
        have hbh := hide hbel
        obtain ⟨m, hmm⟩ : ∃ m, Hid (acc.length = m) := ⟨_, rfl⟩
        rw [hmm.out] at how hl0
        have howh := hide how
        obtain ⟨Ao, co, rfl⟩ := own_len how
        clear how hbel
        go_wp2_with fail
        go_roundw
        case rel => exact ⟨i + 1, by go_num, by omega, by rw [show ((i + 1 : Nat) : Int) = (i : Int) + 1 by omega, hs2.out, hmm.out]; exact howh.out, hbh.out⟩
        case measure => simp [intOf]; omega
      · have hs2 : Hid (ltL ((i : Int) + 1) l = ltL i l ++ [((i : Int), wt i l)]) := by show _ = _; rw [hs.out, if_neg h0]
        have hwp2 : 0 < wt i l := by omega
        generalize wt i l = c at *
        generalize ltL (i : Int) l = acc at *
        obtain ⟨m, hmm⟩ : ∃ m, Hid (acc.length = m) := ⟨_, rfl⟩
        rw [hmm.out] at how hl0
        obtain ⟨Ao, co, rfl⟩ := own_len how
        have hbh := hide hbel
        clear hbel
        go_wp2_with (at_builtin; refine wpList_app1 elNode rfl (.tmp 20) (.tmp 24) rfl w.heap.size _ _ _ [.int .i64 (i : Int), .int .i64 c] 76 rfl how rfl rfl (nd_ones ((i : Int), c)) (by omega) hsz ?_; intro v1 w1 how1 hb1 hgr1 hat1; have how1 := hide how1; have hb1 := hide hb1; clear hgr1 hat1)
        go_roundw
        case rel => exact ⟨i + 1, by go_num, by omega, by rw [show ((i + 1 : Nat) : Int) = (i : Int) + 1 by omega, hs2.out, List.length_append, ndv_snoc, hmm.out]; exact how1.out, hbh.out.trans hb1.out⟩
        case measure => simp [intOf]; omega
    · obtain rfl : i = N := by omega
      have hbh := hide hbel
      rw [hall.out] at how
      obtain ⟨m, hmm⟩ : ∃ m, Hid (l.length = m) := ⟨_, rfl⟩
      rw [hmm.out] at how
      have howh := hide how
      obtain ⟨Ao, co, rfl⟩ := own_len how
      clear how hbel
      go_wp2_with fail
      go_ret
      exact ⟨_, rfl, by rw [hmm.out]; exact howh.out, hbh.out⟩
end Go.Proofs.YtfjgpjgphdiliaaGreat
/- The walks of layer 8: the table that is looked through; where looking begins, and where it ends. By the prover of this repo. -/
namespace Go.Proofs.YtfjgpjgphdiliaaGreat
open Go.RowKit
open TwigM RollM StoM

/-- A number, and as many of its last bits. -/
theorem and_mask (d : Int) (k : Nat) (hk : k ≤ 62) : bits .and .i64 d (((2 ^ k : Nat) : Int) - 1) = d % ((2 ^ k : Nat) : Int) := by
  have hp : 2 ^ k ≤ 2 ^ 62 := Nat.pow_le_pow_right (by omega) hk
  have hpos : 0 < 2 ^ k := Nat.two_pow_pos k
  have e0 : (((2 ^ k : Nat) : Int) - 1) = ((2 ^ k - 1 : Nat) : Int) := by omega
  have e1 : (BitVec.ofInt 64 d).toNat = (d % 18446744073709551616).toNat := by rw [BitVec.toNat_ofInt]; rfl
  have e2 : (BitVec.ofInt 64 d &&& BitVec.ofInt 64 ((2 ^ k - 1 : Nat) : Int)).toNat = (d % 18446744073709551616).toNat % 2 ^ k := by
    rw [BitVec.toNat_and, e1, toNat_i64 (2 ^ k - 1) (by omega), Nat.and_two_pow_sub_one_eq_mod]
  have e3 : (((d % 18446744073709551616).toNat % 2 ^ k : Nat) : Int) = d % ((2 ^ k : Nat) : Int) := by
    rw [Int.natCast_emod, Int.toNat_of_nonneg (Int.emod_nonneg _ (by omega))]
    refine Int.emod_emod_of_dvd d ?_
    rw [show (18446744073709551616 : Int) = ((2 ^ 64 : Nat) : Int) from rfl]
    exact Int.natCast_dvd_natCast.2 (Nat.pow_dvd_pow 2 (by omega))
  have hlt : (d % 18446744073709551616).toNat % 2 ^ k < 2 ^ k := Nat.mod_lt _ hpos
  rw [e0]
  show IntKind.i64.wrap ((BitVec.ofInt 64 d &&& BitVec.ofInt 64 ((2 ^ k - 1 : Nat) : Int)).toNat : Int) = _
  rw [e2, IntKind.wrap_i64, ← e3]
  omega
theorem nxt_mod {n i : Nat} (hi : i < n) : ((i : Int) + 1) % (n : Int) = (nxtN n i : Int) := by
  unfold nxtN
  split
  · rename_i h
    rw [show ((i : Int) + 1) = (n : Int) by omega, Int.emod_self]; rfl
  · rw [Int.emod_eq_of_lt (by omega) (by omega)]; omega
theorem way_mod {n a b : Nat} (ha : a < n) (hb : b < n) : ((b : Int) - (a : Int)) % (n : Int) = (wayN n a b : Int) := by
  unfold wayN
  split
  · rw [Int.emod_eq_of_lt (by omega) (by omega)]; omega
  · have : ((b : Int) - (a : Int)) % (n : Int) = ((b : Int) - (a : Int) + (n : Int)) % (n : Int) := by rw [Int.add_emod_right]
    rw [this, Int.emod_eq_of_lt (by omega) (by omega)]; omega
/-- Where looking begins. -/
def hmF (k : Nat) (id : Int) : Nat := (id * 11400714819323198485 % 18446744073709551616 / ((2 ^ (64 - k) : Nat) : Int)).toNat
theorem hmF_lt (k : Nat) (hk : k ≤ 62) (id : Int) : hmF k id < 2 ^ k := by
  have h0 := Int.emod_nonneg (id * 11400714819323198485) (show (18446744073709551616 : Int) ≠ 0 by omega)
  have h1 := Int.emod_lt_of_pos (id * 11400714819323198485) (show (0 : Int) < 18446744073709551616 by omega)
  unfold hmF
  generalize id * 11400714819323198485 % 18446744073709551616 = x at *
  have e : ((2 ^ 64 : Nat) : Int) = ((2 ^ k : Nat) : Int) * ((2 ^ (64 - k) : Nat) : Int) := by
    rw [← Int.natCast_mul, ← Nat.pow_add, show k + (64 - k) = 64 by omega]
  have hp : (0 : Int) < ((2 ^ (64 - k) : Nat) : Int) := by have := Nat.two_pow_pos (64 - k); omega
  have h2 : x / ((2 ^ (64 - k) : Nat) : Int) < ((2 ^ k : Nat) : Int) := Int.ediv_lt_of_lt_mul hp (by rw [← e]; exact h1)
  have h3 : 0 ≤ x / ((2 ^ (64 - k) : Nat) : Int) := Int.ediv_nonneg h0 (by omega)
  omega
set_option maxRecDepth 100000 in
theorem probe_home (k : Nat) (id : Int) (w : World) (hk1 : 1 ≤ k) (hk : k ≤ 62) (h1 : 1 ≤ id) (h2 : id ≤ 9223372036854775807) :
    Calls Tryz.prog 120 #[.int .i64 (k : Int), .int .i64 id] w fun e w' => e = .returned (.int .i64 (hmF k id : Int)) ∧ w = w' := by
  go_enter Tryz.func120, Tryz.ntmps120
  go_wp2_with fail
  go_ret
  refine ⟨ret_congr (int_congr ?_), rfl⟩
  have hlt := hmF_lt k hk id
  have hp : 2 ^ k ≤ 2 ^ 62 := Nat.pow_le_pow_right (by omega) hk
  have h3 : 0 ≤ id * 11400714819323198485 % 18446744073709551616 / ((2 ^ (64 - k) : Nat) : Int) := Int.ediv_nonneg (Int.emod_nonneg _ (by omega)) (Int.natCast_nonneg _)
  have e : ((2 : Int) ^ (64 - k)) = ((2 ^ (64 - k) : Nat) : Int) := by simp
  unfold hmF at hlt ⊢
  rw [e, IntKind.wrap_u64]
  rw [wrap_in _ (by omega)]
  omega
theorem probe_next (g b k i : Nat) (w : World) (hk : k ≤ 40) (hi : i < 2 ^ k) (c4 : w.cell? ⟨g, 4, none⟩ = some (.slice (some ⟨b, 0, none⟩) (2 ^ k) (2 ^ k))) :
    Calls Tryz.prog 119 #[.pointer (some ⟨g, 0, none⟩), .int .i64 (i : Int)] w fun e w' => e = .returned (.int .i64 (nxtN (2 ^ k) i : Int)) ∧ w = w' := by
  have hp : 2 ^ k ≤ 2 ^ 40 := Nat.pow_le_pow_right (by omega) hk
  have hm := and_mask ((i : Int) + 1) k (by omega)
  rw [nxt_mod hi] at hm
  have hpos : 0 < 2 ^ k := Nat.two_pow_pos k
  rw [show (2 : Nat) ^ 40 = 1099511627776 from rfl] at hp
  generalize 2 ^ k = n at *
  go_enter Tryz.func119, Tryz.ntmps119
  go_wp2_with fail
  go_ret
  exact ⟨rfl, rfl⟩
theorem nd_cells {w : World} {b : Nat} {S : List Nd} (h : Blk w b 76 (ndv S).toArray) {i : Nat} (hi : i < S.length) :
    w.cell? ⟨b, i * 2, none⟩ = some (.int .i64 (idA S i)) ∧ w.cell? ⟨b, i * 2 + 1, none⟩ = some (.int .i64 (cntA S i)) := by
  refine ⟨?_, ?_⟩
  · rw [h.cell (i * 2), List.getElem?_toArray, ndv_get S (i * 2) (by omega)]
    unfold ndc idA
    rw [if_pos (by omega), show i * 2 / 2 = i by omega]
  · rw [h.cell (i * 2 + 1), List.getElem?_toArray, ndv_get S (i * 2 + 1) (by omega)]
    unfold ndc cntA
    rw [if_neg (by omega), show (i * 2 + 1) / 2 = i by omega]
theorem way_le {n a b : Nat} (ha : a < n) (hb : b < n) : wayN n a b + 1 ≤ n := by unfold wayN; split <;> omega
theorem way_nxt {n a b : Nat} (ha : a < n) (hb : b < n) (hne : a ≠ b) : wayN n a b = wayN n (nxtN n a) b + 1 ∧ nxtN n a < n := by
  unfold wayN nxtN
  split <;> split <;> split <;> omega
set_option maxRecDepth 100000 in
set_option maxHeartbeats 1000000 in
theorem probe_look (g b k : Nat) (S : List Nd) (x : Int) (fr : Nat) (w : World) (hk1 : 1 ≤ k) (hk : k ≤ 40) (hS : S.length = 2 ^ k) (c1 : w.cell? ⟨g, 1, none⟩ = some (.int .i64 (k : Int))) (c4 : w.cell? ⟨g, 4, none⟩ = some (.slice (some ⟨b, 0, none⟩) (2 ^ k) (2 ^ k)))
    (hb : Blk w b 76 (ndv S).toArray) (hg : g < w.heap.size) (hx1 : 1 ≤ x) (hx2 : x ≤ 9223372036854775807) (hf : fr < S.length) (hf0 : cntA S fr = 0) :
    Calls Tryz.prog 100 #[.pointer (some ⟨g, 0, none⟩), .int .i64 x] w fun e w' => (∃ (r : Nat) (m : Int), e = .returned (.tuple #[.int .i64 (r : Int), .int .i64 m]) ∧ r < S.length ∧ stopB S x r = true ∧ ∀ j, j < S.length → wayN S.length (hmF k x) j < wayN S.length (hmF k x) r → stopB S x j = false) ∧ Below w.heap.size w w' := by
  have hH := hide (fun W => probe_home k x W hk1 (by omega) hx1 hx2)
  have hh0 := hmF_lt k (by omega) x
  obtain ⟨R, hR⟩ : ∃ R, lookG S x (wayN S.length (hmF k x) fr + 1) (hmF k x) = R := ⟨_, rfl⟩
  have hsp := lookG_spec S x fr hf hf0 (wayN S.length (hmF k x) fr + 1) (hmF k x) (by rw [hS]; exact hh0) (by omega)
  rw [hR] at hsp
  replace hsp := hide hsp
  replace hR := hide hR
  have hNx := hide (fun (i : Nat) (hi : i < 2 ^ k) (W : World) (hW : Below w.heap.size w W) => probe_next g b k i W hk hi ((hW.cell (p := ⟨g, 4, none⟩) hg).trans c4))
  have hcs := hide (fun (i : Nat) (hi : i < S.length) (W : World) (hW : Below w.heap.size w W) => nd_cells (hb.kept hW) hi)
  have hc4 := hide (fun (W : World) (hW : Below w.heap.size w W) => (hW.cell (p := ⟨g, 4, none⟩) hg).trans c4)
  have hp : 2 ^ k ≤ 2 ^ 40 := Nat.pow_le_pow_right (by omega) hk
  rw [show (2 : Nat) ^ 40 = 1099511627776 from rfl] at hp
  have hblt := hb.lt
  obtain ⟨n, hn⟩ : ∃ n, 2 ^ k = n := ⟨_, rfl⟩
  have hSn : Hid (S.length = n) := hS.trans hn
  rw [hSn.out] at hR
  rw [hn] at hNx hc4 c4 hp hh0
  have hfn : fr < n := by rw [← hSn.out]; exact hf
  have hway := way_le hh0 hfn
  generalize hmF k x = h0 at *
  clear hS hn hb hf
  go_enter Tryz.func100, Tryz.ntmps100
  go_wp2_with fail
  go_step3
  go_wp2_with fail
  refine Calls.mono (hH.out _) ?_
  rintro e w1 ⟨rfl, rfl⟩
  go_wp2_with fail
  go_step3
  go_wp2_with fail
  go_loopw [6, 7] (fun iv mv wr => ∃ (i m : Nat), iv = .int .i64 (i : Int) ∧ mv = .int .i64 (m : Int) ∧ i < n ∧ m + wayN n i fr ≤ n ∧ Hid (lookG S x (wayN n i fr + 1) i = R) ∧ Below w.heap.size w wr) (fun iv _ _ => wayN n (intOf iv).toNat fr)
  case atStart => exact ⟨h0, 1, rfl, rfl, hh0, by omega, hR, Below.refl _ _⟩
  case round =>
    clear hR hh0 hway
    obtain ⟨i, m, rfl, rfl, hi, hm, hlk, hbel⟩ := hrel
    have hsz := hbel.size
    obtain ⟨d0, d1⟩ := hcs.out i (by rw [hSn.out]; exact hi) wr hbel
    have d4 := hc4.out wr hbel
    have hb2 : b < wr.heap.size := by omega
    have hg2 : g < wr.heap.size := by omega
    have hlk2 := hlk.out
    rw [lookG] at hlk2
    by_cases hst : stopB S x i = true
    · rw [if_pos hst] at hlk2
      subst hlk2
      have hst2 := of_decide_eq_true hst
      have hbh := hide hbel
      clear hlk hst
      by_cases hc0 : cntA S i = 0
      · rw [hc0] at d1
        clear hst2 hc0 hbel
        go_wp2_with fail
        try rw [Exit.noGoto_ret]
        go_ret2
        exact ⟨⟨i, m, rfl, hsp.out.1, hsp.out.2.1, hsp.out.2.2.2⟩, hbh.out.trans (balloc0 wr _ |>.mono hsz)⟩
      · have hid : idA S i = x := by rcases hst2 with q | q; exact absurd q hc0; exact q
        have hc1 : (cntA S i == 0) = false := by simpa using hc0
        rw [hid] at d0
        generalize cntA S i = ci at *
        clear hst2 hc0 hbel hid
        go_wp2_with fail
        try rw [Exit.noGoto_ret]
        go_ret2
        exact ⟨⟨i, m, rfl, hsp.out.1, hsp.out.2.1, hsp.out.2.2.2⟩, hbh.out.trans (balloc0 wr _ |>.mono hsz)⟩
    · rw [if_neg hst] at hlk2
      have hst2 : ¬ (cntA S i = 0 ∨ idA S i = x) := fun q => hst (decide_eq_true q)
      have hne : i ≠ fr := fun e => hst2 (.inl (e ▸ hf0))
      obtain ⟨hw1, hw2⟩ := way_nxt hi hfn hne
      have hlk3 : Hid (lookG S x (wayN n (nxtN n i) fr + 1) (nxtN n i) = R) := by
        show _ = _
        rw [← hlk2, hSn.out, hw1]
      have hc1 : (cntA S i == 0) = false := by simpa using fun q => hst2 (.inl q)
      have hc2 : (idA S i == x) = false := by simpa using fun q => hst2 (.inr q)
      have hN := hide (fun (o : Obj) => hNx.out i hi (wr.alloc o) (hbel.trans (balloc0 wr o |>.mono hsz)))
      have hbh := hide hbel
      replace hw1 := hide hw1
      generalize nxtN n i = i' at *
      generalize cntA S i = ci at *
      generalize idA S i = ii at *
      clear hst2 hlk hlk2 hst hbel
      go_wp2_with fail
      refine Calls.mono (hN.out _) ?_
      rintro e w1 ⟨rfl, rfl⟩
      go_wp2_with fail
      go_roundw
      case rel => exact ⟨i', m + 1, rfl, by go_num, hw2, by have := hw1.out; omega, hlk3, hbh.out.trans (balloc0 wr _ |>.mono hsz)⟩
      case measure =>
        have := hw1.out
        simp [intOf]; omega
end Go.Proofs.YtfjgpjgphdiliaaGreat

/- Part 11 of the proof: texts joined by this repo's tools/merge.py (PrbW PrbN PrbA). By the prover of this repo. -/
import Derived.Test.YtfjgpjgphdiliaaGreatM10
set_option linter.unusedVariables false
set_option linter.unusedSimpArgs false
/- The walks of layer 8, on: the table's store; what a node weighs. By the prover of this repo. -/
namespace Go.Proofs.YtfjgpjgphdiliaaGreat
open Go.RowKit
open TwigM RollM StoM

/-- A table's struct in block g, its slots in block b. -/
structure PrbRaw (w : World) (g b k : Nat) (S : List Nd) (L u t : Int) : Prop where
  blk : Blk w g 124 #[.int .i64 L, .int .i64 (k : Int), .int .i64 u, .int .i64 t, .slice (some ⟨b, 0, none⟩) (2 ^ k) (2 ^ k)]
  arr : Blk w b 76 (ndv S).toArray
  ne : b ≠ g
  len : S.length = 2 ^ k
  k1 : 3 ≤ k
  k2 : k ≤ 40
/-- A table that has nodes. -/
structure PrbAt (w : World) (g b k : Nat) (S : List Nd) (L : Int) (l : List Nd) : Prop where
  raw : PrbRaw w g b k S L (l.length : Int) (sumL l)
  tab : Tab (hmF k) S l
  half : 2 * l.length ≤ S.length
  l1 : 1 ≤ L
  l2 : L ≤ 48
section
variable {w w' : World} {g b k : Nat} {S l : List Nd} {L u t : Int} {Q : Nat → Prop}
theorem PrbRaw.lt (h : PrbRaw w g b k S L u t) : g < w.heap.size ∧ b < w.heap.size := ⟨h.blk.lt, h.arr.lt⟩
theorem PrbRaw.turned (h : PrbRaw w g b k S L u t) (q : Turn Q w w') (h1 : ¬ Q g) (h2 : ¬ Q b) : PrbRaw w' g b k S L u t := ⟨h.blk.turned q h1, h.arr.turned q h2, h.ne, h.len, h.k1, h.k2⟩
theorem PrbRaw.kept (h : PrbRaw w g b k S L u t) (q : Below w.heap.size w w') : PrbRaw w' g b k S L u t := ⟨h.blk.kept q, h.arr.kept q, h.ne, h.len, h.k1, h.k2⟩
theorem PrbAt.turned (h : PrbAt w g b k S L l) (q : Turn Q w w') (h1 : ¬ Q g) (h2 : ¬ Q b) : PrbAt w' g b k S L l := ⟨h.raw.turned q h1 h2, h.tab, h.half, h.l1, h.l2⟩
theorem PrbAt.kept (h : PrbAt w g b k S L l) (q : Below w.heap.size w w') : PrbAt w' g b k S L l := ⟨h.raw.kept q, h.tab, h.half, h.l1, h.l2⟩
theorem PrbRaw.cells (h : PrbRaw w g b k S L u t) : w.cell? ⟨g, 0, none⟩ = some (.int .i64 L) ∧ w.cell? ⟨g, 1, none⟩ = some (.int .i64 (k : Int)) ∧ w.cell? ⟨g, 2, none⟩ = some (.int .i64 u) ∧ w.cell? ⟨g, 3, none⟩ = some (.int .i64 t) ∧
    w.cell? ⟨g, 4, none⟩ = some (.slice (some ⟨b, 0, none⟩) (2 ^ k) (2 ^ k)) ∧ w.frozen? ⟨g, 1, none⟩ = false ∧ w.frozen? ⟨g, 2, none⟩ = false ∧ w.frozen? ⟨g, 3, none⟩ = false ∧ w.frozen? ⟨g, 4, none⟩ = false :=
  ⟨h.blk.cell 0, h.blk.cell 1, h.blk.cell 2, h.blk.cell 3, h.blk.cell 4, h.blk.free 1, h.blk.free 2, h.blk.free 3, h.blk.free 4⟩
theorem PrbRaw.big (h : PrbRaw w g b k S L u t) : 8 ≤ 2 ^ k ∧ 2 ^ k ≤ 1099511627776 := by
  have h1 : 2 ^ 3 ≤ 2 ^ k := Nat.pow_le_pow_right (by omega) h.k1
  have h2 : 2 ^ k ≤ 2 ^ 40 := Nat.pow_le_pow_right (by omega) h.k2
  rw [show (2 : Nat) ^ 40 = 1099511627776 from rfl] at h2
  omega
theorem PrbAt.room (h : PrbAt w g b k S L l) (hc : Canon l) : ∃ e, e < S.length ∧ cntA S e = 0 := by
  have h1 := h.raw.big
  have h2 := h.raw.len
  have h3 := h.half
  exact h.tab.room hc (by omega)
end
theorem PrbRaw.look {w : World} {g b k : Nat} {S : List Nd} {L u t : Int} (h : PrbRaw w g b k S L u t) (x : Int) (hx1 : 1 ≤ x) (hx2 : x ≤ 9223372036854775807) (hr : ∃ e, e < S.length ∧ cntA S e = 0) :
    Calls Tryz.prog 100 #[.pointer (some ⟨g, 0, none⟩), .int .i64 x] w fun e w' => (∃ (r : Nat) (m : Int), e = .returned (.tuple #[.int .i64 (r : Int), .int .i64 m]) ∧ r < S.length ∧ stopB S x r = true ∧ ∀ j, j < S.length → wayN S.length (hmF k x) j < wayN S.length (hmF k x) r → stopB S x j = false) ∧ Below w.heap.size w w' := by
  obtain ⟨e, he, h0⟩ := hr
  obtain ⟨-, c1, -, -, c4, -⟩ := h.cells
  exact probe_look g b k S x e w (by have := h.k1; omega) h.k2 h.len c1 c4 h.arr h.lt.1 hx1 hx2 he h0
theorem make_nodes (n : Int) (h0 : 0 ≤ n) (h1 : n ≤ 2199023255552) (V : World) : (Instr.makeSlice 73 (.int .i64 n) (.int .i64 n)).run Tryz.prog V = .ok (.slice (some ⟨V.heap.size, 0, none⟩) n.toNat n.toNat) (V.alloc (.cells (ndv (List.replicate n.toNat (0, 0))).toArray 76)) := by
  obtain ⟨i, hi, hz, hs, hb⟩ := info_parts (show (Tryz.prog.info? 76).map (fun i => (i.zero, i.size, i.bytes)) = some (some (nv (0, 0)), 2, 16) by kernel_rfl)
  have h := run_make (P := Tryz.prog) V 73 76 i (nv (0, 0)) Tryz.underlying73 hi hz .i64 .i64 n n h0 (Int.le_refl _) (by rw [hb]; omega) (by omega)
  rw [hs] at h
  have e : madeCells (nv (0, 0)).cells (n.toNat * 2) = (ndv (List.replicate n.toNat (0, 0))).toArray := by
    apply Array.ext_getElem?
    intro j
    have er : (ndv (List.replicate n.toNat ((0 : Int), (0 : Int)))).toArray[j]? = (ndv (List.replicate n.toNat (0, 0)))[j]? := by simp
    by_cases hj : j < n.toNat * 2
    · rw [er, ndv_get _ j (by rw [List.length_replicate]; exact hj)]
      have hz2 : (List.replicate n.toNat ((0 : Int), (0 : Int))).getD (j / 2) (0, 0) = (0, 0) := by
        rw [List.getD_eq_getElem?_getD, List.getElem?_replicate]; split <;> rfl
      unfold madeCells ndc
      rw [hz2]
      rcases Nat.mod_two_eq_zero_or_one j with e | e <;> simp [hj, e, Value.cells]
    · rw [er, Array.getElem?_eq_none (by rw [size_madeCells]; omega), List.getElem?_eq_none (by rw [ndv_length, List.length_replicate]; omega)]
  rw [e] at h
  exact h
theorem probe_new_no (L : Int) (w : World) (h : ¬ (1 ≤ L ∧ L ≤ 48)) : Calls Tryz.prog 54 #[.int .i64 L] w fun e w' => e = .returned (.tuple #[.pointer none, .int .i64 2]) ∧ w = w' := by
  by_cases h1 : 1 ≤ L
  · have h2 : 48 < L := by omega
    clear h
    go_enter Tryz.func54, Tryz.ntmps54
    go_wp2_with fail
    go_ret2
    exact ⟨rfl, rfl⟩
  · clear h
    go_enter Tryz.func54, Tryz.ntmps54
    go_wp2_with fail
    go_ret2
    exact ⟨rfl, rfl⟩
set_option maxRecDepth 100000 in
theorem probe_new (L : Int) (w : World) (h1 : 1 ≤ L) (h2 : L ≤ 48) : Calls Tryz.prog 54 #[.int .i64 L] w fun e w' =>
    ∃ g b, e = .returned (.tuple #[.pointer (some ⟨g, 0, none⟩), .int .i64 0]) ∧ PrbAt w' g b 3 (List.replicate 8 (0, 0)) L [] ∧ w.heap.size ≤ g ∧ w.heap.size ≤ b ∧ Below w.heap.size w w' := by
  have hmk := make_nodes 8 (by omega) (by omega) w
  go_enter Tryz.func54, Tryz.ntmps54
  go_wp2_with fail
  go_ret2
  have hb0 := balloc0 w (.cells (ndv (List.replicate (8 : Int).toNat (0, 0))).toArray 76)
  refine ⟨w.heap.size + 1, w.heap.size, rfl, ⟨⟨Blk.made_at _ _ _ (by simp), (Blk.made w _ _).alloc _, by omega, rfl, by omega, by omega⟩, Tab.nil _ _, by simp, h1, h2⟩, by omega, Nat.le_refl _, balloc hb0 _⟩
theorem probe_right (g b k : Nat) (S : List Nd) (L u t x : Int) (w : World) (h : PrbRaw w g b k S L u t) : Calls Tryz.prog 99 #[.pointer (some ⟨g, 0, none⟩), .int .i64 x] w fun e w' => e = .returned (.bool (rightB L x)) ∧ w = w' := by
  obtain ⟨c0, -, -, -, -, -⟩ := h.cells
  have hR := hide (fun W => right_c L x W)
  clear h
  go_enter Tryz.func99, Tryz.ntmps99
  go_wp2_with fail
  refine Calls.mono (hR.out _) ?_
  rintro e w1 ⟨rfl, rfl⟩
  go_wp2_with fail
  go_ret
  exact ⟨rfl, rfl⟩
theorem probe_l (g b k : Nat) (S : List Nd) (L u t : Int) (w : World) (h : PrbRaw w g b k S L u t) : Calls Tryz.prog 64 #[.pointer (some ⟨g, 0, none⟩)] w fun e w' => e = .returned (.int .i64 L) ∧ w = w' := by
  obtain ⟨c0, -, -, -, -, -⟩ := h.cells
  clear h
  go_enter Tryz.func64, Tryz.ntmps64
  go_wp2_with fail
  go_ret
  exact ⟨rfl, rfl⟩
theorem probe_len (g b k : Nat) (S : List Nd) (L u t : Int) (w : World) (h : PrbRaw w g b k S L u t) : Calls Tryz.prog 98 #[.pointer (some ⟨g, 0, none⟩)] w fun e w' => e = .returned (.int .i64 u) ∧ w = w' := by
  obtain ⟨-, -, c2, -, -, -⟩ := h.cells
  clear h
  go_enter Tryz.func98, Tryz.ntmps98
  go_wp2_with fail
  go_ret
  exact ⟨rfl, rfl⟩
theorem probe_total (g b k : Nat) (S : List Nd) (L u t : Int) (w : World) (h : PrbRaw w g b k S L u t) : Calls Tryz.prog 72 #[.pointer (some ⟨g, 0, none⟩)] w fun e w' => e = .returned (.int .i64 t) ∧ w = w' := by
  obtain ⟨-, -, -, c3, -, -⟩ := h.cells
  clear h
  go_enter Tryz.func72, Tryz.ntmps72
  go_wp2_with fail
  go_ret
  exact ⟨rfl, rfl⟩
set_option maxRecDepth 100000 in
set_option maxHeartbeats 1000000 in
theorem probe_get (g b k : Nat) (S : List Nd) (L x : Int) (l : List Nd) (w : World) (h : PrbAt w g b k S L l) (hc : Canon l) (hu : InU L l) :
    Calls Tryz.prog 74 #[.pointer (some ⟨g, 0, none⟩), .int .i64 x] w fun e w' => e = .returned (.int .i64 (wt x l)) ∧ Below w.heap.size w w' := by
  have hR := hide (fun W (hW : PrbRaw W g b k S L (l.length : Int) (sumL l)) => probe_right g b k S L (l.length : Int) (sumL l) x W hW)
  by_cases hr : 1 ≤ x ∧ x < 2 * pw L
  · have hrb : rightB L x = true := right_mk h.l1 h.l2 hr.1 hr.2
    rw [hrb] at hR
    have hx2 : x ≤ 9223372036854775807 := by have := pw_le48 h.l2; omega
    have hLk := hide (h.raw.look x hr.1 hx2 (h.room hc))
    have hhm := hmF_lt k (by have := h.raw.k2; omega) x
    have hlk := hide (fun (r : Nat) (q1 : r < S.length) (q2 : stopB S x r = true) q3 => (h.tab.look (x := x) (by rw [h.raw.len]; exact hhm) q1 q2 q3).1)
    have hraw := hide h.raw
    have hlen := hide h.raw.len
    obtain ⟨hbig1, hbig2⟩ := h.raw.big
    clear h
    go_enter Tryz.func74, Tryz.ntmps74
    go_wp2_with fail
    refine Calls.mono (hR.out _ hraw.out) ?_
    rintro e w1 ⟨rfl, rfl⟩
    go_wp2_with fail
    refine Calls.mono hLk.out ?_
    rintro e w1 ⟨⟨r, m, rfl, hr1, hr2, hr3⟩, hb1⟩
    have hraw1 := hraw.out.kept hb1
    obtain ⟨-, -, -, -, c4, -⟩ := hraw1.cells
    obtain ⟨-, d1⟩ := nd_cells hraw1.arr hr1
    rw [hlk.out r hr1 hr2 hr3] at d1
    rw [hlen.out] at hr1
    have hblt := hraw1.lt.2
    generalize 2 ^ k = n at *
    replace hb1 := hide hb1
    clear hr2 hr3 hraw1
    go_wp2_with fail
    go_ret
    exact ⟨rfl, hb1.out⟩
  · have hrb : rightB L x = false := by rw [Bool.eq_false_iff]; intro q; have := right_iff.1 q; omega
    rw [hrb] at hR
    rw [wt_out hu hr]
    have hraw := hide h.raw
    clear h
    go_enter Tryz.func74, Tryz.ntmps74
    go_wp2_with fail
    refine Calls.mono (hR.out _ hraw.out) ?_
    rintro e w1 ⟨rfl, rfl⟩
    go_wp2_with fail
    go_ret
    exact ⟨rfl, Below.refl _ _⟩
end Go.Proofs.YtfjgpjgphdiliaaGreat
/- The walks of layer 8, on: the table made twice as great. By the prover of this repo. -/
namespace Go.Proofs.YtfjgpjgphdiliaaGreat
open Go.RowKit
open TwigM RollM StoM

theorem occ_take (x : Int) (S : List Nd) (i : Nat) (hi : i < S.length) : wt x (occ (S.take (i + 1))) = wt x (occ (S.take i)) + (if idA S i = x ∧ 0 < cntA S i then cntA S i else 0) := by
  have e : S.take (i + 1) = S.take i ++ [S[i]] := List.take_succ_eq_append_getElem hi
  have e2 : occ (S.take i ++ [S[i]]) = occ (S.take i) ++ occ [S[i]] := by unfold occ; rw [List.filter_append]
  rw [e, e2, wt_append, wt_occ_cons]
  have h1 : idA S i = S[i].1 := by unfold idA; rw [getD_of hi]
  have h2 : cntA S i = S[i].2 := by unfold cntA; rw [getD_of hi]
  rw [h1, h2]
  show _ = _
  have : wt x (occ ([] : List Nd)) = 0 := rfl
  rw [this]; omega
/-- No earlier slot has that node. -/
theorem tab_fresh {hm : Int → Nat} {S l : List Nd} (h : Tab hm S l) {i : Nat} (hi : i < S.length) (hc : 0 < cntA S i) : wt (idA S i) (occ (S.take i)) = 0 := by
  refine wt_zero _ _ fun p hp e => ?_
  obtain ⟨j, hj, hcj, rfl⟩ := occ_mem.1 hp
  rw [List.length_take] at hj
  have hjl : j < S.length := by omega
  have e1 : idA (S.take i) j = idA S j := by
    unfold idA
    rw [List.getD_eq_getElem?_getD, List.getD_eq_getElem?_getD, List.getElem?_take_of_lt (by omega)]
  have e2 : cntA (S.take i) j = cntA S j := by
    unfold cntA
    rw [List.getD_eq_getElem?_getD, List.getD_eq_getElem?_getD, List.getElem?_take_of_lt (by omega)]
  rw [e2] at hcj
  have := h.one j i hjl hi hcj hc (by rw [← e1]; exact e)
  omega
theorem ndv_set (S : List Nd) (r : Nat) (p : Nd) (hr : r < S.length) : ((ndv S).toArray.setIfInBounds (r * 2) (.int .i64 p.1)).setIfInBounds (r * 2 + 1) (.int .i64 p.2) = (ndv (S.set r p)).toArray := by
  apply Array.ext_getElem?
  intro j
  have er : (ndv (S.set r p)).toArray[j]? = (ndv (S.set r p))[j]? := by simp
  rw [er, Array.getElem?_setIfInBounds, Array.getElem?_setIfInBounds]
  have hsz : (ndv S).toArray.size = S.length * 2 := by rw [List.size_toArray, ndv_length]
  rw [Array.size_setIfInBounds, hsz]
  have e2 : (ndv S).toArray[j]? = (ndv S)[j]? := by simp
  by_cases hj : j < S.length * 2
  · rw [ndv_get (S.set r p) j (by rw [List.length_set]; exact hj), e2, ndv_get S j hj]
    unfold ndc
    rw [getD_set]
    by_cases e1 : r * 2 + 1 = j
    · rw [if_pos e1, if_pos (by omega), if_neg (by omega), if_pos ⟨by omega, hr⟩]
    · rw [if_neg e1]
      by_cases e3 : r * 2 = j
      · rw [if_pos e3, if_pos (by omega), if_pos (by omega), if_pos ⟨by omega, hr⟩]
      · have hne : ¬ (r = j / 2 ∧ r < S.length) := by omega
        rw [if_neg e3, if_neg hne]
  · rw [List.getElem?_eq_none (by rw [ndv_length, List.length_set]; omega), if_neg (by omega), if_neg (by omega), e2, List.getElem?_eq_none (by rw [ndv_length]; omega)]
theorem PrbRaw.store {w : World} {g b k : Nat} {S : List Nd} {L u t : Int} (h : PrbRaw w g b k S L u t) {r : Nat} (hr : r < S.length) (p : Nd) :
    PrbRaw ((w.setCell ⟨b, r * 2, none⟩ (.int .i64 p.1)).setCell ⟨b, r * 2 + 1, none⟩ (.int .i64 p.2)) g b k (S.set r p) L u t := by
  have h1 := (h.blk.off (p := ⟨b, r * 2, none⟩) (Ne.symm h.ne) (.int .i64 p.1)).off (p := ⟨b, r * 2 + 1, none⟩) (Ne.symm h.ne) (.int .i64 p.2)
  have h2 := (h.arr.set (r * 2) (.int .i64 p.1)).set (r * 2 + 1) (.int .i64 p.2)
  rw [ndv_set S r p hr] at h2
  exact ⟨h1, h2, h.ne, by rw [List.length_set]; exact h.len, h.k1, h.k2⟩
theorem PrbRaw.drew {w : World} {g b k : Nat} {S : List Nd} {L u t : Int} (h : PrbRaw w g b k S L u t) : PrbRaw w.drew g b k S L u t := ⟨h.blk, h.arr, h.ne, h.len, h.k1, h.k2⟩
theorem pow_succ' (k : Nat) : 2 ^ (k + 1) = 2 * 2 ^ k := by rw [Nat.pow_succ, Nat.mul_comm]
set_option maxRecDepth 100000 in
set_option maxHeartbeats 1000000 in
theorem probe_widen (g b k : Nat) (S : List Nd) (L u t : Int) (l : List Nd) (w : World) (h : PrbRaw w g b k S L u t) (hk : k < 40) (ht : Tab (hmF k) S l) (hc : Canon l) (hu : InU L l) (hL : L ≤ 48) :
    Calls Tryz.prog 102 #[.pointer (some ⟨g, 0, none⟩)] w fun e w' => (∃ v, e = .returned v) ∧ ∃ b' S', PrbRaw w' g b' (k + 1) S' L u t ∧ Tab (hmF (k + 1)) S' l ∧ w.heap.size ≤ b' ∧ Turn (fun j => j = g) w w' := by
  obtain ⟨-, c1, -, -, c4, f1, -, -, f4⟩ := h.cells
  obtain ⟨hbig1, hbig2⟩ := h.big
  have hp40 := pw_le48 hL
  have hlen := h.len
  have hne := h.ne
  have hps := pow_succ' k
  obtain ⟨N, hN⟩ : ∃ N, 2 ^ (k + 1) = N := ⟨_, rfl⟩
  have hwr : wrap64 ((2 : Int) ^ (k + 1)) = (N : Int) := by
    have e : ((2 : Int) ^ (k + 1)) = (N : Int) := by rw [← hN]; simp
    rw [e]
    exact wrap_in _ (by omega)
  have hmk : ∀ V : World, (Instr.makeSlice 73 (.int .i64 (N : Int)) (.int .i64 (N : Int))).run Tryz.prog V = .ok (.slice (some ⟨V.heap.size, 0, none⟩) N N) (V.alloc (.cells (ndv (List.replicate N (0, 0))).toArray 76)) := fun V => by
    have := make_nodes (N : Int) (by omega) (by omega) V
    rw [Int.toNat_natCast] at this
    exact this
  obtain ⟨n, hn⟩ : ∃ n, 2 ^ k = n := ⟨_, rfl⟩
  have hraw := hide h
  obtain ⟨hg1, hb1⟩ := h.lt
  rw [hn] at c4 hbig1 hbig2 hlen hps
  replace hN := hide hN
  replace hn := hide hn
  clear h
  go_enter Tryz.func102, Tryz.ntmps102
  go_wp2_with fail
  have hW0 : PrbRaw (((w.setCell ⟨g, 1, none⟩ (.int .i64 ((k : Int) + 1))).setCell ⟨g, 4, none⟩ (.slice (some ⟨w.heap.size, 0, none⟩) N N)).alloc (.cells (ndv (List.replicate N (0, 0))).toArray 76)) g w.heap.size (k + 1) (List.replicate N (0, 0)) L u t := by
    have e := ((hraw.out.blk.set 1 (.int .i64 ((k : Int) + 1))).set 4 (.slice (some ⟨w.heap.size, 0, none⟩) N N)).alloc (.cells (ndv (List.replicate N (0, 0))).toArray 76)
    refine ⟨?_, Blk.made_at _ _ _ (by simp), by omega, by rw [List.length_replicate, hN.out], by have := hraw.out.k1; omega, by omega⟩
    rw [hN.out]
    simpa using e
  have hT0 : Turn (fun j => j = g) w (((w.setCell ⟨g, 1, none⟩ (.int .i64 ((k : Int) + 1))).setCell ⟨g, 4, none⟩ (.slice (some ⟨w.heap.size, 0, none⟩) N N)).alloc (.cells (ndv (List.replicate N (0, 0))).toArray 76)) :=
    ((Turn.setCell w (fun j => j = g) ⟨g, 1, none⟩ _ rfl).trans (Turn.setCell _ (fun j => j = g) ⟨g, 4, none⟩ _ rfl) fun _ _ q => q).trans (Turn.alloc _ (fun j => j = g) _) fun _ _ q => q
  generalize ((w.setCell ⟨g, 1, none⟩ (.int .i64 ((k : Int) + 1))).setCell ⟨g, 4, none⟩ (.slice (some ⟨w.heap.size, 0, none⟩) N N)).alloc (.cells (ndv (List.replicate N (0, 0))).toArray 76) = W0 at hW0 hT0 ⊢
  obtain ⟨B, hB⟩ : ∃ B, Hid (w.heap.size = B) := ⟨_, rfl⟩
  rw [hB.out] at hW0 ⊢
  have hoc := hide (fun x i (hi : i < S.length) => occ_take x S i hi)
  have htb := hide ht
  have hfr := hide (fun i (hi : i < S.length) hc => tab_fresh ht hi hc)
  clear c1 f1 f4 c4 hmk hwr
  go_loopw [29] (fun iv wr => ∃ (i : Nat) (S' li : List Nd), iv = .int .i64 (i : Int) ∧ i ≤ n ∧ PrbRaw wr g B (k + 1) S' L u t ∧ Hid (Tab (hmF (k + 1)) S' li) ∧ Canon li ∧ li.length ≤ i ∧ Hid (∀ y, wt y li = wt y (occ (S.take i))) ∧ Turn (fun j => j = g) w wr) (fun iv _ => n - (intOf iv).toNat)
  case atStart => exact ⟨0, _, [], rfl, Nat.zero_le _, hW0, Tab.nil _ _, Canon.nil, by simp, (fun y => rfl), hT0⟩
  case round =>
    clear hW0 hT0
    obtain ⟨i, S', li, rfl, hi, hr', hta, hcl, hll, hwt, htr⟩ := hrel
    have hbb : Blk wr b 76 (ndv S).toArray := hraw.out.arr.turned htr hne
    have hsz := htr.size
    obtain ⟨-, -, -, -, c4, -⟩ := hr'.cells
    have hNl := hr'.len
    rw [hN.out] at c4 hNl
    have hgr := hr'.lt.1
    have hBr := hr'.lt.2
    have hblt := hbb.lt
    by_cases hlt : i < n
    · have hiS : i < S.length := by omega
      obtain ⟨d0, d1⟩ := nd_cells hbb hiS
      have hpos := htb.out.pos i
      by_cases hz : cntA S i = 0
      · have hwt2 : Hid (∀ y, wt y li = wt y (occ (S.take (i + 1)))) := fun y => by rw [hwt.out y, hoc.out y i hiS, if_neg (fun q => by omega)]; omega
        rw [hz] at d1
        generalize idA S i = ii at *
        have hrh := hide hr'
        have htrh := hide htr
        clear hr' htr hbb hpos hz
        go_wp2_with fail
        go_roundw
        case rel => exact ⟨i + 1, S', li, by go_num, by omega, hrh.out.kept (balloc0 _ _), hta, hcl, by omega, hwt2, htrh.out.trans (Turn.alloc _ (fun j => j = g) _) fun _ _ q => q⟩
        case measure => simp [intOf]; omega
      · have hcp : 0 < cntA S i := by omega
        have hat := htb.out.at hiS hcp
        have hin : 1 ≤ idA S i ∧ idA S i < 2 * pw L := by
          obtain ⟨p, hp, e⟩ := mem_wt (show wt (idA S i) l ≠ 0 by omega)
          rw [← e]; exact hu p hp
        have hfresh : Hid (wt (idA S i) li = 0) := by show _ = _; rw [hwt.out]; exact hfr.out i hiS hcp
        have hwt2 : Hid (∀ y, wt y (put (idA S i) (cntA S i) li) = wt y (occ (S.take (i + 1)))) := fun y => by
          rw [hoc.out y i hiS, wt_put, hwt.out y]
          simp only [hcp, and_true]
        have hcan : Hid (Canon (put (idA S i) (cntA S i) li)) := canon_put hcl hcp
        have hpl : Hid ((put (idA S i) (cntA S i) li).length ≤ i + 1) := by
          show _ ≤ _
          rw [len_put hcl, if_pos hfresh.out]; omega
        have hroom := hta.out.room hcl (by have := hN.out; omega)
        have hLk := hide (fun o => (hr'.kept (balloc0 wr o)).look (idA S i) hin.1 (by omega) hroom)
        have hlook := hide (fun (r : Nat) (q1 : r < S'.length) (q2 : stopB S' (idA S i) r = true) q3 => (hta.out.look (x := idA S i) (by rw [hNl, ← hN.out]; exact hmF_lt (k + 1) (by omega) _) q1 q2 q3).1)
        have hnew := hide (fun (r : Nat) (q1 : r < S'.length) (q2 : cntA S' r = 0) q3 => hta.out.new (x := idA S i) (c := cntA S i) hcp q1 q2 hfresh.out q3)
        generalize idA S i = ii at *
        generalize cntA S i = ci at *
        have hbox := fun (o : Obj) => hide (hr'.kept (balloc0 wr o))
        have hrh := hide hr'
        have htrh := hide htr
        clear hr' htr hbb hpos hz hat hroom hcl
        go_wp2_with fail
        refine Calls.mono (hLk.out _) ?_
        rintro e w2 ⟨⟨r, m, rfl, hr1, hr2, hr3⟩, hb2⟩
        have hc0 := hlook.out r hr1 hr2 hr3
        rw [hfresh.out] at hc0
        have htn := hide (hnew.out r hr1 hc0 hr3)
        have hr2' := (hbox (.cells #[.int .i64 ii, .int .i64 ci] 76)).out.kept hb2
        have hbx := (Blk.made wr 76 #[.int .i64 ii, .int .i64 ci]).kept hb2
        have x0 := hbx.cell 0
        have x1 := hbx.cell 1
        obtain ⟨-, -, -, -, c4', -⟩ := hr2'.cells
        rw [hN.out] at c4'
        rw [hNl] at hr1
        have hBr2 := hr2'.lt.2
        have hri : (r : Int) < (N : Int) := by omega
        have fz0 := hr2'.arr.free (r * 2)
        have fz1 := hr2'.arr.free (r * 2 + 1)
        have hdd := nd_cells hr2'.arr (i := r) (by omega)
        obtain ⟨y0, y1⟩ := hdd
        have hr2h := hide hr2'
        have htr2 := hide ((htrh.out.trans (Turn.alloc wr (fun j => j = g) (.cells #[.int .i64 ii, .int .i64 ci] 76)) fun _ _ q => q).trans (Below.turn hb2 (fun j => j = g)) fun _ _ q => q)
        clear hbox hr2 hr3 hb2 hr2' hbx hc0
        go_wp2_with fail
        go_region
        have hst := hide (hr2h.out.store (r := r) (by omega) (ii, ci))
        have hts := hide (htr2.out.trans ((Turn.setCell w2 (fun j => j = B) ⟨B, r * 2, none⟩ (.int .i64 ii) rfl).trans (Turn.setCell _ (fun j => j = B) ⟨B, r * 2 + 1, none⟩ (.int .i64 ci) rfl) fun _ _ q => q) (fun j q1 q2 => by have := hB.out; omega))
        clear x0 x1 y0 y1 fz0 fz1 c4' d0 d1
        go_wp2_with fail
        go_roundw
        case rel => exact ⟨i + 1, S'.set r (ii, ci), put ii ci li, by go_num, by omega, hst.out.drew, htn.out, hcan.out, hpl.out, hwt2, hts.out.drewN 1⟩
        case measure => simp [intOf]; omega
    · obtain rfl : i = n := by omega
      have hfin : Hid (Tab (hmF (k + 1)) S' l) := ⟨hta.out.pos, hta.out.path, hta.out.one, fun x => by rw [hta.out.same, hwt.out, List.take_of_length_le (by omega), htb.out.same]⟩
      have hrh := hide hr'
      have htrh := hide htr
      clear hr' htr hbb
      go_wp2_with fail
      go_end0
      exact ⟨⟨_, rfl⟩, B, S', hrh.out, hfin.out, by rw [← hB.out]; exact Nat.le_refl _, htrh.out⟩
end Go.Proofs.YtfjgpjgphdiliaaGreat
/- The walks of layer 8, on: a node's weight more. By the prover of this repo. -/
namespace Go.Proofs.YtfjgpjgphdiliaaGreat
open Go.RowKit
open TwigM RollM StoM

theorem ndv_set_c (S : List Nd) (r : Nat) (v : Int) (hr : r < S.length) : (ndv S).toArray.setIfInBounds (r * 2 + 1) (.int .i64 v) = (ndv (S.set r (idA S r, v))).toArray := by
  rw [← ndv_set S r (idA S r, v) hr]
  congr 1
  have e : (ndv S).toArray[r * 2]? = some (.int .i64 (idA S r)) := by
    rw [List.getElem?_toArray, ndv_get S (r * 2) (by omega)]
    unfold ndc idA
    rw [if_pos (by omega), show r * 2 / 2 = r by omega]
  apply Array.ext_getElem?
  intro j
  rw [Array.getElem?_setIfInBounds]
  by_cases h : r * 2 = j
  · subst h
    rw [if_pos rfl, e, if_pos (by rw [List.size_toArray, ndv_length]; omega)]
  · rw [if_neg h]
theorem ndv_set_i (S : List Nd) (r : Nat) (v : Int) (hr : r < S.length) : (ndv S).toArray.setIfInBounds (r * 2) (.int .i64 v) = (ndv (S.set r (v, cntA S r))).toArray := by
  rw [← ndv_set S r (v, cntA S r) hr]
  have e : (ndv S).toArray[r * 2 + 1]? = some (.int .i64 (cntA S r)) := by
    rw [List.getElem?_toArray, ndv_get S (r * 2 + 1) (by omega)]
    unfold ndc cntA
    rw [if_neg (by omega), show (r * 2 + 1) / 2 = r by omega]
  apply Array.ext_getElem?
  intro j
  rw [Array.getElem?_setIfInBounds, Array.getElem?_setIfInBounds, Array.getElem?_setIfInBounds, Array.size_setIfInBounds]
  by_cases h : r * 2 + 1 = j
  · subst h
    rw [if_pos rfl, if_neg (by omega), e, if_pos (by rw [List.size_toArray, ndv_length]; omega)]
  · rw [if_neg h]
section
variable {w : World} {g b k : Nat} {S : List Nd} {L u t : Int}
theorem PrbRaw.setU (h : PrbRaw w g b k S L u t) (u' : Int) : PrbRaw (w.setCell ⟨g, 2, none⟩ (.int .i64 u')) g b k S L u' t :=
  ⟨by simpa using h.blk.set 2 (.int .i64 u'), h.arr.off (p := ⟨g, 2, none⟩) h.ne _, h.ne, h.len, h.k1, h.k2⟩
theorem PrbRaw.setT (h : PrbRaw w g b k S L u t) (t' : Int) : PrbRaw (w.setCell ⟨g, 3, none⟩ (.int .i64 t')) g b k S L u t' :=
  ⟨by simpa using h.blk.set 3 (.int .i64 t'), h.arr.off (p := ⟨g, 3, none⟩) h.ne _, h.ne, h.len, h.k1, h.k2⟩
theorem PrbRaw.count (h : PrbRaw w g b k S L u t) {r : Nat} (hr : r < S.length) (v : Int) : PrbRaw (w.setCell ⟨b, r * 2 + 1, none⟩ (.int .i64 v)) g b k (S.set r (idA S r, v)) L u t := by
  have h2 := h.arr.set (r * 2 + 1) (.int .i64 v)
  rw [ndv_set_c S r v hr] at h2
  exact ⟨h.blk.off (p := ⟨b, r * 2 + 1, none⟩) (Ne.symm h.ne) _, h2, h.ne, by rw [List.length_set]; exact h.len, h.k1, h.k2⟩
theorem PrbRaw.ident (h : PrbRaw w g b k S L u t) {r : Nat} (hr : r < S.length) (v : Int) : PrbRaw (w.setCell ⟨b, r * 2, none⟩ (.int .i64 v)) g b k (S.set r (v, cntA S r)) L u t := by
  have h2 := h.arr.set (r * 2) (.int .i64 v)
  rw [ndv_set_i S r v hr] at h2
  exact ⟨h.blk.off (p := ⟨b, r * 2, none⟩) (Ne.symm h.ne) _, h2, h.ne, by rw [List.length_set]; exact h.len, h.k1, h.k2⟩
theorem PrbRaw.drewN (h : PrbRaw w g b k S L u t) (m : Nat) : PrbRaw (w.drewN m) g b k S L u t := ⟨h.blk, h.arr, h.ne, h.len, h.k1, h.k2⟩
/-- A node put into a slot, and the sum. -/
theorem PrbRaw.whole (h : PrbRaw w g b k S L u t) {r : Nat} (hr : r < S.length) (h0 : cntA S r = 0) (x c t' : Int) :
    PrbRaw (((w.setCell ⟨b, r * 2, none⟩ (.int .i64 x)).setCell ⟨b, r * 2 + 1, none⟩ (.int .i64 c)).setCell ⟨g, 3, none⟩ (.int .i64 t')) g b k (S.set r (x, c)) L u t' := by
  have h1 := h.ident hr x
  have h2 := h1.count (r := r) (by rw [List.length_set]; exact hr) c
  have e : idA (S.set r (x, cntA S r)) r = x := by unfold idA; rw [getD_set, if_pos ⟨rfl, hr⟩]
  rw [e, List.set_set] at h2
  exact h2.setT t'
end
theorem pow_lt40 {k : Nat} (h : k ≤ 26) : k < 40 := by omega
set_option maxRecDepth 100000 in
set_option maxHeartbeats 2000000 in
theorem probe_add (g b k : Nat) (S : List Nd) (L x c : Int) (l : List Nd) (w : World) (h : PrbAt w g b k S L l) (hcn : Canon l) (hu : InU L l) (hx1 : 1 ≤ x) (hx2 : x < 2 * pw L) (hc : 0 ≤ c) (hm : sumL l + c ≤ 72057594037927935) (hlen : l.length ≤ 1000000) (hk : k ≤ 26) :
    Calls Tryz.prog 76 #[.pointer (some ⟨g, 0, none⟩), .int .i64 x, .int .i64 c] w fun e w' => e = .returned (.int .i64 0) ∧ ∃ b' k' S', PrbAt w' g b' k' S' L (addS x c l) ∧ k' ≤ 26 ∧ (b' = b ∨ w.heap.size ≤ b') ∧ Turn (fun j => j = g ∨ j = b) w w' := by
  have hL48 := pw_le48 h.l2
  have hs0 := sumL_nonneg l hcn.cntL
  have hR := hide (fun W (hW : PrbRaw W g b k S L (l.length : Int) (sumL l)) => probe_right g b k S L (l.length : Int) (sumL l) x W hW)
  rw [right_mk h.l1 h.l2 hx1 hx2] at hR
  have hA := hide (fun W => reckon_add (sumL l) c W (by omega) (by omega))
  have hAF : addF (sumL l) c = (sumL l + c, true) := by unfold addF; rw [if_pos ⟨hs0, hc, by omega⟩]
  rw [hAF] at hA
  have hsum := sumL_addS x c l
  have hln := len_addS hcn x hc
  obtain ⟨-, -, -, c3, -, -, -, -, -⟩ := h.raw.cells
  have hh := hide h
  by_cases hc0 : c = 0
  · subst hc0
    have ha : addS x 0 l = l := by unfold addS; rw [if_pos rfl]
    rw [ha]
    clear h
    go_enter Tryz.func76, Tryz.ntmps76
    go_wp2_with fail
    refine Calls.mono (hR.out _ hh.out.raw) ?_
    rintro e w1 ⟨rfl, rfl⟩
    go_wp2_with fail
    refine Calls.mono (hA.out _) ?_
    rintro e w1 ⟨rfl, rfl⟩
    go_wp2_with fail
    go_ret
    exact ⟨rfl, b, k, S, hh.out, hk, .inl rfl, Turn.refl _ _⟩
  · have hcp : 0 < c := by omega
    have ha : addS x c l = put x c l := by unfold addS; rw [if_neg hc0]
    have hcz : (c == 0) = false := by simpa using hc0
    have hLk := hide (h.raw.look x hx1 (by omega) (h.room hcn))
    have hhm := hmF_lt k (by omega) x
    have hlk := hide (fun (r : Nat) (q1 : r < S.length) (q2 : stopB S x r = true) q3 => h.tab.look (x := x) (by rw [h.raw.len]; exact hhm) q1 q2 q3)
    have hwp := wt_nonneg x l hcn.cntL
    have hwle : wt x l ≤ sumL l := by
      have := sumM_split (fun _ => 1) x l
      rw [← sumL_M] at this
      have h2 := sumM_nonneg (g := fun _ => 1) (l := del x l) (fun p hp => hcn.cntL p (del_mem.1 hp).1) (fun _ _ => by omega)
      omega
    obtain ⟨hbig1, hbig2⟩ := h.raw.big
    have hSl := h.raw.len
    have hhalf := h.half
    have hne := h.raw.ne
    obtain ⟨n, hn⟩ : ∃ n, 2 ^ k = n := ⟨_, rfl⟩
    rw [hn] at hbig1 hbig2 hSl
    replace hn := hide hn
    by_cases hz : wt x l = 0
    · rw [if_pos ⟨hz, hcp⟩] at hln
      have hln2 : (l.length : Int) + 1 = ((addS x c l).length : Int) := by omega
      by_cases hwd : n < 2 * (l.length + 1)
      · have hk21 : k < 21 := by
          refine Nat.not_le.1 fun q => ?_
          have := Nat.pow_le_pow_right (show 0 < 2 by omega) q
          rw [hn.out, show (2 : Nat) ^ 21 = 2097152 from rfl] at this
          omega
        have hwd2 : (n : Int) < 2 * ((l.length : Int) + 1) := by omega
        obtain ⟨N, hN⟩ : ∃ N, 2 ^ (k + 1) = N := ⟨_, rfl⟩
        have hN2 : Hid (N = 2 * n) := by show _ = _; rw [← hN, pow_succ', hn.out]
        have hl2 := h.l2
        clear h
        go_enter Tryz.func76, Tryz.ntmps76
        go_wp2_with fail
        refine Calls.mono (hR.out _ hh.out.raw) ?_
        rintro e w1 ⟨rfl, rfl⟩
        go_wp2_with fail
        refine Calls.mono (hA.out _) ?_
        rintro e w1 ⟨rfl, rfl⟩
        go_wp2_with fail
        refine Calls.mono hLk.out ?_
        rintro e w1 ⟨⟨r, m, rfl, hr1, hr2, hr3⟩, hb1⟩
        have hcr := (hlk.out r hr1 hr2 hr3).1
        rw [hz] at hcr
        have hraw1 := hh.out.raw.kept hb1
        obtain ⟨-, -, c2', c3', c4, -, f2, f3, -⟩ := hraw1.cells
        rw [hn.out] at c4
        obtain ⟨-, d1⟩ := nd_cells hraw1.arr hr1
        rw [hcr] at d1
        have hri : (r : Int) < (n : Int) := by omega
        obtain ⟨hg2, hb2⟩ := hraw1.lt
        have hrawu := hide (hraw1.setU ((l.length : Int) + 1))
        have htu := hide ((Below.turn hb1 (fun j => j = g)).trans (Turn.setCell w1 (fun j => j = g) ⟨g, 2, none⟩ (.int .i64 ((l.length : Int) + 1)) rfl) fun _ _ q => q)
        replace hln := hide hln
        replace hln2 := hide hln2
        replace hsum := hide hsum
        clear hr2 hr3 hb1 hraw1 hlk hLk
        go_wp2_with fail
        go_quiet (fail)
        have hraw3 := hide (hrawu.out.drewN nq)
        have htu3 := hide (htu.out.drewN nq)
        generalize (w1.setCell ⟨g, 2, none⟩ (.int .i64 ((l.length : Int) + 1))).drewN nq = W2 at hraw3 htu3 ⊢
        have hWd := hide (probe_widen g b k S L ((l.length : Int) + 1) (sumL l) l W2 hraw3.out (by omega) hh.out.tab hcn hu hl2)
        clear c2' c3' c4 f2 f3 d1 hcr
        go_wp2_with fail
        refine Calls.mono hWd.out ?_
        rintro e w3 ⟨⟨v, rfl⟩, b', S3, hr4, ht4, hb4, htu4⟩
        have hS3 := hr4.len
        rw [hN] at hS3
        have hL4 := hide (hr4.look x hx1 (by omega) (ht4.room hcn (by have := hN2.out; omega)))
        have hlk4 := hide (fun (r : Nat) (q1 : r < S3.length) (q2 : stopB S3 x r = true) q3 => (ht4.look (x := x) (by rw [hr4.len]; exact hmF_lt (k + 1) (by omega) x) q1 q2 q3).1)
        have hr4h := hide hr4
        have htu4h := hide htu4
        clear hr4 htu4
        go_wp2_with fail
        refine Calls.mono hL4.out ?_
        rintro e w4 ⟨⟨r4, m4, rfl, q1, q2, q3⟩, hb5⟩
        have hcr4 := hlk4.out r4 q1 q2 q3
        rw [hz] at hcr4
        have hr5 := hr4h.out.kept hb5
        obtain ⟨-, -, -, k3, k4, -, -, k6, -⟩ := hr5.cells
        have hne5 := hr5.ne
        rw [hN] at k4
        obtain ⟨e0, e1⟩ := nd_cells hr5.arr q1
        rw [hcr4] at e1
        have g5 := hr5.arr.free (r4 * 2)
        have g6 := hr5.arr.free (r4 * 2 + 1)
        obtain ⟨g8, g7⟩ := hr5.lt
        have hri4 : (r4 : Int) < (N : Int) := by omega
        have hfin := hide (hr5.whole q1 hcr4 x c (sumL l + c))
        have htab := hide (ht4.new hcp q1 hcr4 hz q3)
        have hb5h := hide hb5
        replace hN := hide hN
        clear hr5 hcr4 q2 q3 hb5 hlk4 hL4
        go_wp2_with fail
        go_ret
        refine ⟨rfl, b', k + 1, S3.set r4 (x, c), ⟨?_, by rw [ha]; exact htab.out, by rw [List.length_set, hln.out]; have := hN2.out; omega, hh.out.l1, hh.out.l2⟩, by omega, .inr (Nat.le_trans htu3.out.size hb4), ?_⟩
        · have q := hfin.out
          rw [← hln2.out, hsum.out]
          simpa using q
        · have t1 := htu3.out.trans htu4h.out fun _ _ q => q
          have t2 := t1.trans (Below.turn hb5h.out (fun j => j = g)) fun _ _ q => q
          exact (t2.more (T := fun j => j = g ∨ j = b) fun _ _ q => .inl q).trans (turn3 g b' w4 _ _ _ (.inr rfl) (.inr rfl) (.inl rfl)) fun j hj q => by
            rcases q with q | q
            · exact .inl q
            · exfalso
              have := htu3.out.size
              omega
      · clear h
        go_enter Tryz.func76, Tryz.ntmps76
        go_wp2_with fail
        refine Calls.mono (hR.out _ hh.out.raw) ?_
        rintro e w1 ⟨rfl, rfl⟩
        go_wp2_with fail
        refine Calls.mono (hA.out _) ?_
        rintro e w1 ⟨rfl, rfl⟩
        go_wp2_with fail
        refine Calls.mono hLk.out ?_
        rintro e w1 ⟨⟨r, m, rfl, hr1, hr2, hr3⟩, hb1⟩
        have hcr := (hlk.out r hr1 hr2 hr3).1
        rw [hz] at hcr
        have hraw1 := hh.out.raw.kept hb1
        obtain ⟨-, -, c2', c3', c4, -, f2, f3, -⟩ := hraw1.cells
        rw [hn.out] at c4
        obtain ⟨-, d1⟩ := nd_cells hraw1.arr hr1
        rw [hcr] at d1
        have hri : (r : Int) < (n : Int) := by omega
        obtain ⟨hg2, hb2⟩ := hraw1.lt
        have hrawu := hide (hraw1.setU ((l.length : Int) + 1))
        have htu := hide ((Below.turn hb1 (fun j => j = g)).trans (Turn.setCell w1 (fun j => j = g) ⟨g, 2, none⟩ (.int .i64 ((l.length : Int) + 1)) rfl) fun _ _ q => q)
        have htab := hide (hh.out.tab.new hcp hr1 hcr hz hr3)
        have hwd2 : ¬ (n : Int) < 2 * ((l.length : Int) + 1) := by omega
        replace hln := hide hln
        replace hln2 := hide hln2
        replace hsum := hide hsum
        clear hr2 hr3 hb1 hraw1 hlk hLk
        go_wp2_with fail
        go_quiet (fail)
        have hraw3 := hide (hrawu.out.drewN nq)
        have htu3 := hide (htu.out.drewN nq)
        generalize (w1.setCell ⟨g, 2, none⟩ (.int .i64 ((l.length : Int) + 1))).drewN nq = W2 at hraw3 htu3 ⊢
        have hr3' := hraw3.out
        obtain ⟨-, -, -, k3, k4, -, -, k6, -⟩ := hr3'.cells
        rw [hn.out] at k4
        obtain ⟨e0, e1⟩ := nd_cells hr3'.arr hr1
        rw [hcr] at e1
        have g5 := hr3'.arr.free (r * 2)
        have g6 := hr3'.arr.free (r * 2 + 1)
        have g7 := hr3'.lt.2
        have hfin := hide (hr3'.whole hr1 hcr x c (sumL l + c))
        clear hr3' c2' c3' c4 f2 f3 d1 hcr
        go_wp2_with fail
        go_ret
        refine ⟨rfl, b, k, S.set r (x, c), ⟨?_, by rw [ha]; exact htab.out, by rw [List.length_set, hln.out]; omega, hh.out.l1, hh.out.l2⟩, hk, .inl rfl, ?_⟩
        · have q := hfin.out
          rw [← hln2.out, hsum.out]
          simpa using q
        · exact (htu3.out.more (T := fun j => j = g ∨ j = b) fun _ _ q => .inl q).trans (turn3 g b W2 _ _ _ (.inr rfl) (.inr rfl) (.inl rfl)) fun _ _ q => q
    · rw [if_neg (fun q => hz q.1)] at hln
      have hzf : (wt x l == 0) = false := by simpa using hz
      clear h
      go_enter Tryz.func76, Tryz.ntmps76
      go_wp2_with fail
      refine Calls.mono (hR.out _ hh.out.raw) ?_
      rintro e w1 ⟨rfl, rfl⟩
      go_wp2_with fail
      refine Calls.mono (hA.out _) ?_
      rintro e w1 ⟨rfl, rfl⟩
      go_wp2_with fail
      refine Calls.mono hLk.out ?_
      rintro e w1 ⟨⟨r, m, rfl, hr1, hr2, hr3⟩, hb1⟩
      obtain ⟨hcr, hir⟩ := hlk.out r hr1 hr2 hr3
      have hir := hir hz
      have hraw1 := hh.out.raw.kept hb1
      obtain ⟨-, -, -, c3', c4, -, -, f3, -⟩ := hraw1.cells
      rw [hn.out] at c4
      obtain ⟨-, d1⟩ := nd_cells hraw1.arr hr1
      have f5 := hraw1.arr.free (r * 2 + 1)
      have hri : (r : Int) < (n : Int) := by omega
      obtain ⟨hg2, hb2⟩ := hraw1.lt
      have hfin := hide (hraw1.count hr1 (cntA S r + c) |>.setT (sumL l + c))
      rw [hir] at hfin
      rw [hcr] at d1
      have htab := hide (hh.out.tab.more hcp hr1 (by omega) hir)
      have hrawh := hide hraw1
      have hb1h := hide hb1
      replace hcr := hide hcr
      replace hir := hide hir
      replace hln := hide hln
      replace hsum := hide hsum
      clear hr2 hr3 hb1 hraw1 hlk hLk
      go_wp2_with fail
      go_ret
      refine ⟨rfl, b, k, S.set r (x, cntA S r + c), ⟨?_, by rw [ha]; exact htab.out, by rw [List.length_set, hln.out]; exact hhalf, hh.out.l1, hh.out.l2⟩, hk, .inl rfl, ?_⟩
      · have q := hfin.out
        rw [hcr.out] at q
        rw [hcr.out, hln.out, hsum.out]
        exact q
      · exact (Below.turn hb1h.out _).trans (turn2 g b w1 _ _ (.inr rfl) (.inl rfl)) fun _ _ q => q
end Go.Proofs.YtfjgpjgphdiliaaGreat

/- Part 12 of the proof: texts joined by this repo's tools/merge2.py (PrbS Pool PoolB Agd). By the prover of this repo. -/
import Derived.Test.YteebghoijaaakaaGreatM10
import Derived.Test.YteebghoijaaakaaGreatM11
import Derived.Test.YteebghoijaaakaaGreatM9
import Derived.Test.YteebghoijaaakaaGreatM4
import Derived.Maps.OwnSet
import Derived.BigRegion
set_option linter.unusedVariables false
set_option linter.unusedSimpArgs false
/- The walks of layer 8, on: all nodes, by rising numbers. By the prover of this repo. -/
namespace Go.Proofs.YteebghoijaaakaaGreat
open Go.RowKit
open TwigM RollM StoM

theorem occ_take_snoc (S : List Nd) (i : Nat) (hi : i < S.length) : occ (S.take (i + 1)) = occ (S.take i) ++ if cntA S i = 0 ∨ cntA S i < 0 then [] else [(idA S i, cntA S i)] := by
  have e : S.take (i + 1) = S.take i ++ [S[i]] := List.take_succ_eq_append_getElem hi
  have e2 : occ (S.take i ++ [S[i]]) = occ (S.take i) ++ occ [S[i]] := by unfold occ; rw [List.filter_append]
  have h1 : (idA S i, cntA S i) = S[i] := by unfold idA cntA; rw [getD_of hi]
  have h2 : cntA S i = S[i].2 := by unfold cntA; rw [getD_of hi]
  rw [e, e2, h1]
  congr 1
  unfold occ
  by_cases hc : 0 < S[i].2
  · rw [List.filter_cons_of_pos (by simpa using hc), if_neg (by omega)]; rfl
  · rw [List.filter_cons_of_neg (by simpa using hc), if_pos (by omega)]; rfl
theorem occ_take_len (S : List Nd) (i : Nat) : (occ (S.take i)).length ≤ (occ S).length := by
  unfold occ
  exact ((List.take_prefix i S).sublist.filter _).length_le
set_option maxRecDepth 100000 in
set_option maxHeartbeats 1000000 in
theorem probe_snap (g b k cp : Nat) (S : List Nd) (L : Int) (l : List Nd) (w : World) (h : PrbAt w g b k cp S L l) (hcn : Canon l) (hlen : l.length ≤ 1000000) (hk : k ≤ 26) :
    Calls Tryz.prog 122 #[.pointer (some ⟨g, 0, none⟩)] w fun e w' => ∃ v, e = .returned v ∧ w'.ownsRow w.heap.size 67 2 v l.length (ndv l) ∧ Below w.heap.size w w' := by
  obtain ⟨-, -, -, -, c4, -⟩ := h.raw.cells
  obtain ⟨hbig1, hbig2⟩ := h.raw.big
  have hSl := h.raw.len
  have hat := hide (fun (W : World) (hW : Below w.heap.size w W) (i : Nat) (hi : i < S.length) => nd_cells (h.raw.arr.kept hW) hi)
  have hpos := hide h.tab.pos
  have hsrt := hide (h.tab.sorted hcn)
  have hocl := hide (h.tab.len hcn)
  have hblt := h.raw.lt.2
  have htk := hide (fun i (hi : i < S.length) => occ_take_snoc S i hi)
  have htl := hide (fun i => occ_take_len S i)
  obtain ⟨n, hn⟩ : ∃ n, 2 ^ k = n := ⟨_, rfl⟩
  rw [hn] at c4 hbig1 hbig2 hSl
  have hSh := hide hSl
  clear h hn
  go_enter Tryz.func122, Tryz.ntmps122
  go_wp2_with fail
  go_loopw [3, 13] (fun out kv wr => ∃ (i : Nat), kv = .int .i64 i ∧ i ≤ n ∧ wr.ownsRow w.heap.size 67 2 out (occ (S.take i)).length (ndv (occ (S.take i))) ∧ Below w.heap.size w wr) (fun _ kv _ => n - (intOf kv).toNat)
  case atStart => exact ⟨0, rfl, Nat.zero_le _, World.ownsRow_nil _ _ _ _, Below.refl _ _⟩
  case round =>
    obtain ⟨i, rfl, hi, how, hbel⟩ := hrel
    have hsz := hbel.size
    have hb2 : b < wr.heap.size := by omega
    by_cases hlt2 : i < n
    · obtain ⟨d0, d1⟩ := hat.out wr hbel i (by rw [hSh.out]; exact hlt2)
      have hs := hide (htk.out i (by rw [hSh.out]; exact hlt2))
      have hl0 := htl.out i
      have hp := hpos.out i
      rw [hocl.out] at hl0
      by_cases h0 : cntA S i = 0
      · have hs2 : Hid (occ (S.take (i + 1)) = occ (S.take i)) := by show _ = _; rw [hs.out, if_pos (Or.inl h0), List.append_nil]
        rw [h0] at d1
        generalize idA S i = ii at *
        generalize occ (S.take i) = acc at *
        have hbh := hide hbel
        obtain ⟨m, hmm⟩ : ∃ m, Hid (acc.length = m) := ⟨_, rfl⟩
        rw [hmm.out] at how hl0
        have howh := hide how
        obtain ⟨Ao, co, rfl⟩ := own_len how
        clear how hbel
        go_wp2_with fail
        go_roundw
        case rel => exact ⟨i + 1, by go_num, by omega, by rw [hs2.out, hmm.out]; exact howh.out.alloc _, balloc hbh.out _⟩
        case measure => simp [intOf]; omega
      · have hcp : 0 < cntA S i := by omega
        have hs2 : Hid (occ (S.take (i + 1)) = occ (S.take i) ++ [(idA S i, cntA S i)]) := by show _ = _; rw [hs.out, if_neg (by omega)]
        generalize idA S i = ii at *
        generalize cntA S i = ci at *
        generalize occ (S.take i) = acc at *
        obtain ⟨m, hmm⟩ : ∃ m, Hid (acc.length = m) := ⟨_, rfl⟩
        rw [hmm.out] at how hl0
        obtain ⟨Ao, co, rfl⟩ := own_len how
        have hbh := hide hbel
        have howa := fun (o : Obj) => how.alloc o
        replace howa := hide howa
        clear hbel how
        go_wp2_with (at_builtin; refine wpList_app1 elNode rfl (.tmp 20) (.tmp 22) rfl w.heap.size _ _ _ [.int .i64 ii, .int .i64 ci] 67 rfl (howa.out _) (show Value.slice (some ⟨wr.heap.size + 1, 0, none⟩) 1 1 = .slice (some ⟨(wr.alloc _).heap.size, 0, none⟩) 1 1 from by simp) rfl (nd_ones (ii, ci)) (by omega) (by simp; omega) ?_; intro v1 w1 how1 hb1 hgr1 hat1; have how1 := hide how1; have hb1 := hide hb1; clear hgr1 hat1)
        go_roundw
        case rel => exact ⟨i + 1, by go_num, by omega, by rw [hs2.out, List.length_append, ndv_snoc, hmm.out]; exact how1.out, (balloc hbh.out _).trans hb1.out⟩
        case measure => simp [intOf]; omega
    · obtain rfl : i = n := by omega
      rw [List.take_of_length_le (by rw [hSh.out]; exact Nat.le_refl _)] at how
      obtain ⟨A, c, rfl, q1, q2, q3, q4⟩ := own_nds how
      have hS := hide (roll_sorted_o A c (occ S) wr q4 q1 q2 q3 (by rw [hocl.out]; exact hlen))
      rw [hsrt.out, hocl.out] at hS
      rw [hocl.out]
      have hbh := hide hbel
      clear how hbel q1 q2 q3 q4
      go_wp2_with fail
      refine Calls.mono hS.out ?_
      rintro e w2 ⟨v, rfl, how2, hb3⟩
      have how2 := hide (own_low hsz how2)
      have hb4 := hide (hbh.out.trans (hb3.mono hsz))
      clear hb3
      go_wp2_with fail
      go_ret
      exact ⟨_, rfl, how2.out, hb4.out⟩
end Go.Proofs.YteebghoijaaakaaGreat
/- The walks of layer 9: one of the two stores of weighed nodes. By the prover of this repo. -/
namespace Go.Proofs.YteebghoijaaakaaGreat
open Go.RowKit
open TwigM RollM StoM

/-- A store of weighed nodes, of one kind or the other, in block p; its own blocks are F. -/
structure PoolAt (w : World) (p : Nat) (kd L : Int) (l : List Nd) (F : Nat → Prop) : Prop where
  canon : Canon l
  inU : InU L l
  sum : sumL l ≤ 72057594037927935
  len : l.length ≤ 1000000
  out : ¬ F p
  kind : (kd = 1 ∧ ∃ g b, Blk w p 131 #[.pointer (some ⟨g, 0, none⟩), .pointer none] ∧ DenAt w g b L l ∧ F = fun j => j = g ∨ j = b) ∨
    (kd = 2 ∧ ∃ g b k cp S, Blk w p 131 #[.pointer none, .pointer (some ⟨g, 0, none⟩)] ∧ PrbAt w g b k cp S L l ∧ k ≤ 26 ∧ F = fun j => j = g ∨ j = b)
section
variable {w : World} {p : Nat} {kd L : Int} {l : List Nd} {F : Nat → Prop}
theorem PoolAt.turned {w' : World} {S : Nat → Prop} (h : PoolAt w p kd L l F) (t : Turn S w w') (h1 : ¬ S p) (h2 : ∀ j, F j → ¬ S j) : PoolAt w' p kd L l F := by
  refine ⟨h.canon, h.inU, h.sum, h.len, h.out, ?_⟩
  rcases h.kind with ⟨hk, g, b, hb, hd, rfl⟩ | ⟨hk, g, b, k, cp, R, hb, hd, hk2, rfl⟩
  · exact .inl ⟨hk, g, b, hb.turned t h1, hd.turned t (h2 g (.inl rfl)) (h2 b (.inr rfl)), rfl⟩
  · exact .inr ⟨hk, g, b, k, cp, R, hb.turned t h1, hd.turned t (h2 g (.inl rfl)) (h2 b (.inr rfl)), hk2, rfl⟩
theorem PoolAt.kept {w' : World} (h : PoolAt w p kd L l F) (t : Below w.heap.size w w') : PoolAt w' p kd L l F :=
  h.turned (Below.turn t fun _ => False) (fun h => h) fun _ _ h => h
theorem PoolAt.lt (h : PoolAt w p kd L l F) : p < w.heap.size ∧ ∀ j, F j → j < w.heap.size := by
  rcases h.kind with ⟨hk, g, b, hb, hd, rfl⟩ | ⟨hk, g, b, k, cp, R, hb, hd, hk2, rfl⟩
  · exact ⟨hb.lt, fun j hj => hj.elim (fun e => e ▸ hd.lt.1) fun e => e ▸ hd.lt.2⟩
  · exact ⟨hb.lt, fun j hj => hj.elim (fun e => e ▸ hd.raw.lt.1) fun e => e ▸ hd.raw.lt.2⟩
theorem PoolAt.two (h : PoolAt w p kd L l F) : (kd = 1 ∧ 1 ≤ L ∧ L ≤ 16) ∨ (kd = 2 ∧ 1 ≤ L ∧ L ≤ 48) := by
  rcases h.kind with ⟨hk, g, b, hb, hd, rfl⟩ | ⟨hk, g, b, k, cp, R, hb, hd, hk2, rfl⟩
  · exact .inl ⟨hk, hd.l1, hd.l2⟩
  · exact .inr ⟨hk, hd.l1, hd.l2⟩
end
theorem pool_arr (p g : Nat) (w : World) (c0 : w.cell? ⟨p, 0, none⟩ = some (.pointer (some ⟨g, 0, none⟩))) :
    Calls Tryz.prog 74 #[.pointer (some ⟨p, 0, none⟩)] w fun e w' => e = .returned (.bool true) ∧ w = w' := by
  go_enter Tryz.func74, Tryz.ntmps74
  go_wp2_with fail
  go_ret
  exact ⟨rfl, rfl⟩
theorem pool_not (p : Nat) (w : World) (c0 : w.cell? ⟨p, 0, none⟩ = some (.pointer none)) :
    Calls Tryz.prog 74 #[.pointer (some ⟨p, 0, none⟩)] w fun e w' => e = .returned (.bool false) ∧ w = w' := by
  go_enter Tryz.func74, Tryz.ntmps74
  go_wp2_with fail
  go_ret
  exact ⟨rfl, rfl⟩
theorem pool_inner (p : Nat) (v : Value) (w : World) (c1 : w.cell? ⟨p, 1, none⟩ = some v) :
    Calls Tryz.prog 76 #[.pointer (some ⟨p, 0, none⟩)] w fun e w' => e = .returned v ∧ w = w' := by
  go_enter Tryz.func76, Tryz.ntmps76
  go_wp2_with fail
  go_ret
  exact ⟨rfl, rfl⟩
theorem pool_kind (p : Nat) (kd L : Int) (l : List Nd) (F : Nat → Prop) (w : World) (h : PoolAt w p kd L l F) :
    Calls Tryz.prog 34 #[.pointer (some ⟨p, 0, none⟩)] w fun e w' => e = .returned (.int .i64 kd) ∧ Below w.heap.size w w' := by
  rcases h.kind with ⟨rfl, g, b, hb, hd, -⟩ | ⟨rfl, g, b, k, cp, R, hb, hd, hk2, -⟩
  · have c0 := hb.cell 0
    have hI := hide (pool_arr p g w c0)
    clear h hb hd
    go_enter Tryz.func34, Tryz.ntmps34
    go_wp2_with fail
    refine Calls.mono hI.out ?_
    rintro e w1 ⟨rfl, rfl⟩
    go_wp2_with fail
    go_ret
    exact ⟨rfl, Below.refl _ _⟩
  · have c0 := hb.cell 0
    have hI := hide (pool_not p w c0)
    clear h hb hd
    go_enter Tryz.func34, Tryz.ntmps34
    go_wp2_with fail
    refine Calls.mono hI.out ?_
    rintro e w1 ⟨rfl, rfl⟩
    go_wp2_with fail
    go_ret
    exact ⟨rfl, Below.refl _ _⟩
theorem pool_l (p : Nat) (kd L : Int) (l : List Nd) (F : Nat → Prop) (w : World) (h : PoolAt w p kd L l F) :
    Calls Tryz.prog 33 #[.pointer (some ⟨p, 0, none⟩)] w fun e w' => e = .returned (.int .i64 L) ∧ Below w.heap.size w w' := by
  rcases h.kind with ⟨rfl, g, b, hb, hd, -⟩ | ⟨rfl, g, b, k, cp, R, hb, hd, hk2, -⟩
  · have c0 := hb.cell 0
    have c1 := hb.cell 1
    have hI := hide (pool_arr p g w c0)
    have hC := hide (dense_l g b L l w hd)
    clear h hb hd
    go_enter Tryz.func33, Tryz.ntmps33
    go_wp2_with fail
    refine Calls.mono hI.out ?_
    rintro e w1 ⟨rfl, rfl⟩
    go_wp2_with fail
    refine Calls.mono hC.out ?_
    rintro e w1 ⟨rfl, rfl⟩
    go_wp2_with fail
    go_ret
    exact ⟨rfl, Below.refl _ _⟩
  · have c0 := hb.cell 0
    have c1 := hb.cell 1
    have hI := hide (pool_not p w c0)
    have hJ := hide (pool_inner p _ w c1)
    have hC := hide (probe_l g b k cp R L _ _ w hd.raw)
    clear h hb hd
    go_enter Tryz.func33, Tryz.ntmps33
    go_wp2_with fail
    refine Calls.mono hI.out ?_
    rintro e w1 ⟨rfl, rfl⟩
    go_wp2_with fail
    refine Calls.mono hJ.out ?_
    rintro e w1 ⟨rfl, rfl⟩
    go_wp2_with fail
    refine Calls.mono hC.out ?_
    rintro e w1 ⟨rfl, rfl⟩
    go_wp2_with fail
    go_ret
    exact ⟨rfl, Below.refl _ _⟩
theorem pool_len (p : Nat) (kd L : Int) (l : List Nd) (F : Nat → Prop) (w : World) (h : PoolAt w p kd L l F) :
    Calls Tryz.prog 52 #[.pointer (some ⟨p, 0, none⟩)] w fun e w' => e = .returned (.int .i64 (l.length : Int)) ∧ Below w.heap.size w w' := by
  rcases h.kind with ⟨rfl, g, b, hb, hd, -⟩ | ⟨rfl, g, b, k, cp, R, hb, hd, hk2, -⟩
  · have c0 := hb.cell 0
    have c1 := hb.cell 1
    have hI := hide (pool_arr p g w c0)
    have hC := hide (dense_len g b L l w hd)
    clear h hb hd
    go_enter Tryz.func52, Tryz.ntmps52
    go_wp2_with fail
    refine Calls.mono hI.out ?_
    rintro e w1 ⟨rfl, rfl⟩
    go_wp2_with fail
    refine Calls.mono hC.out ?_
    rintro e w1 ⟨rfl, rfl⟩
    go_wp2_with fail
    go_ret
    exact ⟨rfl, Below.refl _ _⟩
  · have c0 := hb.cell 0
    have c1 := hb.cell 1
    have hI := hide (pool_not p w c0)
    have hJ := hide (pool_inner p _ w c1)
    have hC := hide (probe_len g b k cp R L _ _ w hd.raw)
    clear h hb hd
    go_enter Tryz.func52, Tryz.ntmps52
    go_wp2_with fail
    refine Calls.mono hI.out ?_
    rintro e w1 ⟨rfl, rfl⟩
    go_wp2_with fail
    refine Calls.mono hJ.out ?_
    rintro e w1 ⟨rfl, rfl⟩
    go_wp2_with fail
    refine Calls.mono hC.out ?_
    rintro e w1 ⟨rfl, rfl⟩
    go_wp2_with fail
    go_ret
    exact ⟨rfl, Below.refl _ _⟩
theorem pool_total (p : Nat) (kd L : Int) (l : List Nd) (F : Nat → Prop) (w : World) (h : PoolAt w p kd L l F) :
    Calls Tryz.prog 40 #[.pointer (some ⟨p, 0, none⟩)] w fun e w' => e = .returned (.int .i64 (sumL l)) ∧ Below w.heap.size w w' := by
  rcases h.kind with ⟨rfl, g, b, hb, hd, -⟩ | ⟨rfl, g, b, k, cp, R, hb, hd, hk2, -⟩
  · have c0 := hb.cell 0
    have c1 := hb.cell 1
    have hI := hide (pool_arr p g w c0)
    have hC := hide (dense_total g b L l w hd)
    clear h hb hd
    go_enter Tryz.func40, Tryz.ntmps40
    go_wp2_with fail
    refine Calls.mono hI.out ?_
    rintro e w1 ⟨rfl, rfl⟩
    go_wp2_with fail
    refine Calls.mono hC.out ?_
    rintro e w1 ⟨rfl, rfl⟩
    go_wp2_with fail
    go_ret
    exact ⟨rfl, Below.refl _ _⟩
  · have c0 := hb.cell 0
    have c1 := hb.cell 1
    have hI := hide (pool_not p w c0)
    have hJ := hide (pool_inner p _ w c1)
    have hC := hide (probe_total g b k cp R L _ _ w hd.raw)
    clear h hb hd
    go_enter Tryz.func40, Tryz.ntmps40
    go_wp2_with fail
    refine Calls.mono hI.out ?_
    rintro e w1 ⟨rfl, rfl⟩
    go_wp2_with fail
    refine Calls.mono hJ.out ?_
    rintro e w1 ⟨rfl, rfl⟩
    go_wp2_with fail
    refine Calls.mono hC.out ?_
    rintro e w1 ⟨rfl, rfl⟩
    go_wp2_with fail
    go_ret
    exact ⟨rfl, Below.refl _ _⟩
theorem pool_get (p : Nat) (kd L x : Int) (l : List Nd) (F : Nat → Prop) (w : World) (h : PoolAt w p kd L l F) (hx : x ≤ 9223372036854775807) :
    Calls Tryz.prog 41 #[.pointer (some ⟨p, 0, none⟩), .int .i64 x] w fun e w' => e = .returned (.int .i64 (wt x l)) ∧ Below w.heap.size w w' := by
  rcases h.kind with ⟨rfl, g, b, hb, hd, -⟩ | ⟨rfl, g, b, k, cp, R, hb, hd, hk2, -⟩
  · have c0 := hb.cell 0
    have c1 := hb.cell 1
    have hI := hide (pool_arr p g w c0)
    have hC := hide (dense_get g b L x l w hd h.inU hx)
    clear h hb hd
    go_enter Tryz.func41, Tryz.ntmps41
    go_wp2_with fail
    refine Calls.mono hI.out ?_
    rintro e w1 ⟨rfl, rfl⟩
    go_wp2_with fail
    refine Calls.mono hC.out ?_
    rintro e w1 ⟨rfl, rfl⟩
    go_wp2_with fail
    go_ret
    exact ⟨rfl, Below.refl _ _⟩
  · have c0 := hb.cell 0
    have c1 := hb.cell 1
    have hI := hide (pool_not p w c0)
    have hJ := hide (pool_inner p _ w c1)
    have hC := hide (probe_get g b k cp R L x l w hd h.canon h.inU)
    clear h hb hd
    go_enter Tryz.func41, Tryz.ntmps41
    go_wp2_with fail
    refine Calls.mono hI.out ?_
    rintro e w1 ⟨rfl, rfl⟩
    go_wp2_with fail
    refine Calls.mono hJ.out ?_
    rintro e w1 ⟨rfl, rfl⟩
    go_wp2_with fail
    refine Calls.mono hC.out ?_
    rintro e w1 ⟨rfl, hb1⟩
    go_wp2_with fail
    go_ret
    exact ⟨rfl, hb1⟩
theorem pool_snap (p : Nat) (kd L : Int) (l : List Nd) (F : Nat → Prop) (w : World) (h : PoolAt w p kd L l F) :
    Calls Tryz.prog 68 #[.pointer (some ⟨p, 0, none⟩)] w fun e w' => ∃ v, e = .returned v ∧ w'.ownsRow w.heap.size 67 2 v l.length (ndv l) ∧ Below w.heap.size w w' := by
  rcases h.kind with ⟨rfl, g, b, hb, hd, -⟩ | ⟨rfl, g, b, k, cp, R, hb, hd, hk2, -⟩
  · have c0 := hb.cell 0
    have c1 := hb.cell 1
    have hI := hide (pool_arr p g w c0)
    have hC := hide (dense_snap g b L l w hd h.canon h.inU h.len)
    clear h hb hd
    go_enter Tryz.func68, Tryz.ntmps68
    go_wp2_with fail
    refine Calls.mono hI.out ?_
    rintro e w1 ⟨rfl, rfl⟩
    go_wp2_with fail
    refine Calls.mono hC.out ?_
    rintro e w1 ⟨v, rfl, hv, hb1⟩
    go_wp2_with fail
    go_ret
    exact ⟨v, rfl, hv, hb1⟩
  · have c0 := hb.cell 0
    have c1 := hb.cell 1
    have hI := hide (pool_not p w c0)
    have hJ := hide (pool_inner p _ w c1)
    have hC := hide (probe_snap g b k cp R L l w hd h.canon h.len (by omega))
    clear h hb hd
    go_enter Tryz.func68, Tryz.ntmps68
    go_wp2_with fail
    refine Calls.mono hI.out ?_
    rintro e w1 ⟨rfl, rfl⟩
    go_wp2_with fail
    refine Calls.mono hJ.out ?_
    rintro e w1 ⟨rfl, rfl⟩
    go_wp2_with fail
    refine Calls.mono hC.out ?_
    rintro e w1 ⟨v, rfl, hv, hb1⟩
    go_wp2_with fail
    go_ret
    exact ⟨v, rfl, hv, hb1⟩
theorem wt_le_sum {l : List Nd} (h : Canon l) (x : Int) : wt x l ≤ sumL l := by
  have := sumM_split (fun _ => 1) x l
  rw [← sumL_M] at this
  have h2 := sumM_nonneg (g := fun _ => 1) (l := del x l) (fun p hp => h.cntL p (del_mem.1 hp).1) (fun _ _ => by omega)
  omega
theorem inU_del' {L : Int} {l : List Nd} (h : InU L l) (x : Int) : InU L (del x l) := fun p hp => h p (del_mem.1 hp).1
set_option maxHeartbeats 1000000 in
theorem pool_add (p : Nat) (kd L x c : Int) (l : List Nd) (F : Nat → Prop) (w : World) (h : PoolAt w p kd L l F) (hx1 : 1 ≤ x) (hx2 : x < 2 * pw L) (hc : 0 ≤ c) (hs : sumL l + c ≤ 72057594037927935) (hl : (addS x c l).length ≤ 1000000) :
    Calls Tryz.prog 43 #[.pointer (some ⟨p, 0, none⟩), .int .i64 x, .int .i64 c] w fun e w' => e = .returned (.int .i64 0) ∧ ∃ F', PoolAt w' p kd L (addS x c l) F' ∧ Turn F w w' ∧ ∀ j, F' j → F j ∨ w.heap.size ≤ j := by
  have hcn := canon_addS (id := x) h.canon hc
  have hu := inU_addS (c := c) h.inU hx1 hx2
  have hsm := sumL_addS x c l
  have hlt := h.lt.1
  have hout := h.out
  rcases h.kind with ⟨rfl, g, b, hb, hd, rfl⟩ | ⟨rfl, g, b, k, cp, R, hb, hd, hk2, rfl⟩
  · have c0 := hb.cell 0
    have hI := hide (pool_arr p g w c0)
    have hC := hide (dense_add g b L x c l w hd h.canon hx1 hx2 hc hs (by have := h.len; omega))
    have hbh := hide hb
    clear h hb hd
    replace hu := hide hu
    replace hout := hide hout
    go_enter Tryz.func43, Tryz.ntmps43
    go_wp2_with fail
    refine Calls.mono hI.out ?_
    rintro e w1 ⟨rfl, rfl⟩
    go_wp2_with fail
    refine Calls.mono hC.out ?_
    rintro e w1 ⟨rfl, hd1, ht⟩
    go_wp2_with fail
    go_ret
    exact ⟨rfl, _, ⟨hcn, hu.out, by omega, hl, hout.out, .inl ⟨rfl, g, b, hbh.out.turned ht hout.out, hd1, rfl⟩⟩, ht, fun j hj => .inl hj⟩
  · have c0 := hb.cell 0
    have c1 := hb.cell 1
    have hI := hide (pool_not p w c0)
    have hJ := hide (pool_inner p _ w c1)
    have hC := hide (probe_add g b k cp R L x c l w hd h.canon h.inU hx1 hx2 hc hs h.len hk2)
    have hbh := hide hb
    clear h hb hd
    replace hu := hide hu
    replace hout := hide hout
    go_enter Tryz.func43, Tryz.ntmps43
    go_wp2_with fail
    refine Calls.mono hI.out ?_
    rintro e w1 ⟨rfl, rfl⟩
    go_wp2_with fail
    refine Calls.mono hJ.out ?_
    rintro e w1 ⟨rfl, rfl⟩
    go_wp2_with fail
    refine Calls.mono hC.out ?_
    rintro e w1 ⟨rfl, b', k', cp', S', hd1, hk', hbb, ht⟩
    go_wp2_with fail
    go_ret
    have hout2 : ¬ (p = g ∨ p = b') := by
      have hg : ¬ (p = g ∨ p = b) := hout.out
      rintro (e | e)
      · exact hg (.inl e)
      · rcases hbb with rfl | hbb
        · exact hg (.inr e)
        · omega
    refine ⟨rfl, _, ⟨hcn, hu.out, by omega, hl, hout2, .inr ⟨rfl, g, b', k', cp', S', hbh.out.turned ht hout.out, hd1, hk', rfl⟩⟩, ht, ?_⟩
    rintro j (e | e)
    · exact .inl (.inl e)
    · rcases hbb with rfl | hbb
      · exact .inl (.inr e)
      · right; omega
set_option maxHeartbeats 1000000 in
theorem pool_take (p : Nat) (kd L x : Int) (l : List Nd) (F : Nat → Prop) (w : World) (h : PoolAt w p kd L l F) (hx : x ≤ 9223372036854775807) :
    Calls Tryz.prog 69 #[.pointer (some ⟨p, 0, none⟩), .int .i64 x] w fun e w' => e = .returned (.int .i64 (wt x l)) ∧ PoolAt w' p kd L (del x l) F ∧ Turn F w w' := by
  have hcn := canon_del h.canon x
  have hu := inU_del' h.inU x
  have hsm := sumL_del x l
  have hw0 := wt_nonneg x l h.canon.cntL
  have hs0 := h.sum
  have hll : (del x l).length ≤ l.length := List.length_filter_le _ _
  have hl0 := h.len
  have hlt := h.lt.1
  have hout := h.out
  rcases h.kind with ⟨rfl, g, b, hb, hd, rfl⟩ | ⟨rfl, g, b, k, cp, R, hb, hd, hk2, rfl⟩
  · have c0 := hb.cell 0
    have hI := hide (pool_arr p g w c0)
    have hC := hide (dense_take g b L x l w hd h.canon h.inU h.sum hx (by have := h.len; omega))
    have hbh := hide hb
    clear h hb hd
    replace hu := hide hu
    replace hout := hide hout
    go_enter Tryz.func69, Tryz.ntmps69
    go_wp2_with fail
    refine Calls.mono hI.out ?_
    rintro e w1 ⟨rfl, rfl⟩
    go_wp2_with fail
    refine Calls.mono hC.out ?_
    rintro e w1 ⟨rfl, hd1, ht⟩
    go_wp2_with fail
    go_ret
    exact ⟨rfl, ⟨hcn, hu.out, by omega, by omega, hout.out, .inl ⟨rfl, g, b, hbh.out.turned ht hout.out, hd1, rfl⟩⟩, ht⟩
  · have c0 := hb.cell 0
    have c1 := hb.cell 1
    have hI := hide (pool_not p w c0)
    have hJ := hide (pool_inner p _ w c1)
    have hC := hide (probe_take g b k cp R L x l w hd h.canon h.inU h.sum h.len hk2)
    have hbh := hide hb
    clear h hb hd
    replace hu := hide hu
    replace hout := hide hout
    go_enter Tryz.func69, Tryz.ntmps69
    go_wp2_with fail
    refine Calls.mono hI.out ?_
    rintro e w1 ⟨rfl, rfl⟩
    go_wp2_with fail
    refine Calls.mono hJ.out ?_
    rintro e w1 ⟨rfl, rfl⟩
    go_wp2_with fail
    refine Calls.mono hC.out ?_
    rintro e w1 ⟨rfl, S', hd1, ht⟩
    go_wp2_with fail
    go_ret
    exact ⟨rfl, ⟨hcn, hu.out, by omega, by omega, hout.out, .inr ⟨rfl, g, b, k, cp, S', hbh.out.turned ht hout.out, hd1, hk2, rfl⟩⟩, ht⟩
/-- What a new store takes. -/
def kindB (kd L : Int) : Bool := (decide (kd = 1) && (decide (1 ≤ L) && decide (L ≤ 16))) || (decide (kd = 2) && (decide (1 ≤ L) && decide (L ≤ 48)))
theorem PoolAt.at1 {w : World} {q g b : Nat} {L : Int} (hb : Blk w q 131 #[.pointer (some ⟨g, 0, none⟩), .pointer none]) (hd : DenAt w g b L []) (h1 : q ≠ g) (h2 : q ≠ b) : PoolAt w q 1 L [] fun j => j = g ∨ j = b :=
  ⟨⟨List.Pairwise.nil, fun _ h => absurd h (by simp)⟩, fun _ h => absurd h (by simp), by simp [sumL], by simp, fun e => e.elim h1 h2, .inl ⟨rfl, g, b, hb, hd, rfl⟩⟩
theorem PoolAt.at2 {w : World} {q g b k cp : Nat} {S : List Nd} {L : Int} (hb : Blk w q 131 #[.pointer none, .pointer (some ⟨g, 0, none⟩)]) (hd : PrbAt w g b k cp S L []) (hk : k ≤ 26) (h1 : q ≠ g) (h2 : q ≠ b) : PoolAt w q 2 L [] fun j => j = g ∨ j = b :=
  ⟨⟨List.Pairwise.nil, fun _ h => absurd h (by simp)⟩, fun _ h => absurd h (by simp), by simp [sumL], by simp, fun e => e.elim h1 h2, .inr ⟨rfl, g, b, k, cp, S, hb, hd, hk, rfl⟩⟩
theorem pool_new_no (kd L : Int) (w : World) (h : kindB kd L = false) : Calls Tryz.prog 38 #[.int .i64 kd, .int .i64 L] w fun e w' => e = .returned (.tuple #[.pointer none, .int .i64 2]) ∧ Below w.heap.size w w' := by
  have hb0 := balloc0 w (.cells #[.pointer none, .pointer none] 131)
  by_cases h1 : kd = 1
  · subst h1
    have hL : ¬ (1 ≤ L ∧ L ≤ 16) := fun k => by simp [kindB, k.1, k.2] at h
    have hD := hide (fun W => dense_new_no L W hL)
    clear h hL
    go_enter Tryz.func38, Tryz.ntmps38
    go_wp2_with fail
    refine Calls.mono (hD.out _) ?_
    rintro e w1 ⟨rfl, rfl⟩
    go_wp2_with fail
    go_ret2
    exact ⟨rfl, hb0⟩
  · by_cases h2 : kd = 2
    · subst h2
      have hL : ¬ (1 ≤ L ∧ L ≤ 48) := fun k => by simp [kindB, k.1, k.2] at h
      have hD := hide (fun W => probe_new_no L W hL)
      clear h hL h1
      go_enter Tryz.func38, Tryz.ntmps38
      go_wp2_with fail
      refine Calls.mono (hD.out _) ?_
      rintro e w1 ⟨rfl, rfl⟩
      go_wp2_with fail
      go_ret2
      exact ⟨rfl, hb0⟩
    · clear h
      go_enter Tryz.func38, Tryz.ntmps38
      go_wp2_with fail
      go_ret2
      exact ⟨rfl, hb0⟩
theorem pool_new (kd L : Int) (w : World) (h : kindB kd L = true) : Calls Tryz.prog 38 #[.int .i64 kd, .int .i64 L] w fun e w' =>
    ∃ p F, e = .returned (.tuple #[.pointer (some ⟨p, 0, none⟩), .int .i64 0]) ∧ PoolAt w' p kd L [] F ∧ w.heap.size ≤ p ∧ (∀ j, F j → w.heap.size ≤ j) ∧ Below w.heap.size w w' := by
  have hb0 := hide (balloc0 w (.cells #[.pointer none, .pointer none] 131))
  have hmk := hide (Blk.made w 131 #[.pointer none, .pointer none])
  unfold kindB at h
  by_cases h1 : kd = 1
  · subst h1
    have hL : 1 ≤ L ∧ L ≤ 16 := by simpa using h
    have hD := hide (fun W => dense_new L W hL.1 hL.2)
    clear h hL
    go_enter Tryz.func38, Tryz.ntmps38
    go_wp2_with fail
    refine Calls.mono (hD.out _) ?_
    rintro e w1 ⟨g, b, rfl, hd, hg, hb, hbel⟩
    have hsz := hbel.size
    have hlt0 := hmk.out.lt
    have hblk := hide (hmk.out.kept hbel)
    have hlt := hblk.out.lt
    have fz := hblk.out.free 0
    have hc := hblk.out.cell 0
    have hdh := hide hd
    clear hd
    have hbh := hide (hb0.out.trans (hbel.mono (by simp)))
    clear hbel
    go_wp2_with fail
    go_ret2
    have hne1 : w.heap.size ≠ g := by omega
    have hne2 : w.heap.size ≠ b := by omega
    refine ⟨w.heap.size, _, rfl, PoolAt.at1 (by simpa using hblk.out.set 0 (.pointer (some ⟨g, 0, none⟩))) (hdh.out.turned (Turn.setCell _ (fun j => j = w.heap.size) _ _ rfl) (Ne.symm hne1) (Ne.symm hne2)) hne1 hne2, Nat.le_refl _, ?_, hbh.out.setCell (Nat.le_refl _) _⟩
    rintro j (rfl | rfl) <;> omega
  · have h2 : kd = 2 := by
      rcases Bool.or_eq_true_iff.1 h with k | k
      · simp [h1] at k
      · simp at k; exact k.1
    subst h2
    have hL : 1 ≤ L ∧ L ≤ 48 := by simpa using h
    have hD := hide (fun W => probe_new L W hL.1 hL.2)
    clear h hL h1
    go_enter Tryz.func38, Tryz.ntmps38
    go_wp2_with fail
    refine Calls.mono (hD.out _) ?_
    rintro e w1 ⟨g, b, rfl, hd, hg, hb, hbel⟩
    have hsz := hbel.size
    have hlt0 := hmk.out.lt
    have hblk := hide (hmk.out.kept hbel)
    have hlt := hblk.out.lt
    have fz := hblk.out.free 1
    have hc := hblk.out.cell 1
    have hdh := hide hd
    clear hd
    have hbh := hide (hb0.out.trans (hbel.mono (by simp)))
    clear hbel
    go_wp2_with fail
    go_ret2
    have hne1 : w.heap.size ≠ g := by omega
    have hne2 : w.heap.size ≠ b := by omega
    refine ⟨w.heap.size, _, rfl, PoolAt.at2 (by simpa using hblk.out.set 1 (.pointer (some ⟨g, 0, none⟩))) (hdh.out.turned (Turn.setCell _ (fun j => j = w.heap.size) _ _ rfl) (Ne.symm hne1) (Ne.symm hne2)) (by omega) hne1 hne2, Nat.le_refl _, ?_, hbh.out.setCell (Nat.le_refl _) _⟩
    rintro j (rfl | rfl) <;> omega
end Go.Proofs.YteebghoijaaakaaGreat
/- The walks of layer 9, on: what is put there, and Load. By the prover of this repo. -/
namespace Go.Proofs.YteebghoijaaakaaGreat
open Go.RowKit
open TwigM RollM StoM

theorem right_facts (L : Int) : ∀ (l : List Nd) (last : Int), rightGo L last l = true → (l.Pairwise fun x y => x.1 < y.1) ∧ ∀ p ∈ l, last < p.1 ∧ rightB L p.1 = true ∧ 0 < p.2
  | [], last, _ => ⟨List.Pairwise.nil, fun p hp => by cases hp⟩
  | p :: l, last, h => by
    rw [rightGo] at h
    split at h
    · cases h
    · rename_i hn
      obtain ⟨h1, h2⟩ := right_facts L l p.1 h
      have hp1 : last < p.1 := by omega
      have hp2 : rightB L p.1 = true := by
        rcases Bool.eq_false_or_eq_true (rightB L p.1) with e | e
        · exact e
        · exact absurd (.inr (.inl e)) hn
      have hp3 : 0 < p.2 := by omega
      refine ⟨List.pairwise_cons.2 ⟨fun q hq => (h2 q hq).1, h1⟩, fun q hq => ?_⟩
      rcases List.mem_cons.1 hq with rfl | hq
      · exact ⟨hp1, hp2, hp3⟩
      · have := h2 q hq
        exact ⟨by omega, this.2⟩
theorem tot_facts : ∀ (l : List Nd) (n : Int), n ≤ 72057594037927935 → (totGo n l).2 = true → n + sumL l ≤ 72057594037927935
  | [], n, h, _ => by simpa [sumL] using h
  | p :: l, n, h, ht => by
    by_cases hb : p.2 < 0 ∨ 72057594037927935 - n < p.2
    · rw [tot_bad hb] at ht; cases ht
    · rw [tot_on hb] at ht
      have := tot_facts l (n + p.2) (by omega) ht
      rw [show sumL (p :: l) = p.2 + sumL l from rfl]
      omega
theorem roll_facts {L : Int} {l : List Nd} (h : rollB L l = true) : Canon l ∧ InU L l ∧ sumL l ≤ 72057594037927935 ∧ 1 ≤ L ∧ L ≤ 48 := by
  unfold rollB at h
  obtain ⟨h1, h2⟩ := Bool.and_eq_true_iff.1 h
  obtain ⟨h2, h3⟩ := Bool.and_eq_true_iff.1 h2
  obtain ⟨h4, h5⟩ := right_facts L l 0 h1
  have h6 := tot_facts l 0 (by omega) h2
  have h7 : 1 ≤ L ∧ L ≤ 48 := of_decide_eq_true h3
  exact ⟨⟨h4, fun p hp => (h5 p hp).2.2⟩, fun p hp => by have := right_iff.1 (h5 p hp).2.1; omega, by omega, h7.1, h7.2⟩
theorem put_last (x c : Int) : ∀ (l : List Nd), (∀ p ∈ l, p.1 < x) → put x c l = l ++ [(x, c)]
  | [], _ => rfl
  | p :: l, h => by
    have h1 := h p (by simp)
    have ih := put_last x c l fun q hq => h q (by simp [hq])
    show BagM.put x c (p :: l) = _
    rw [BagM.put, if_neg (by omega), if_neg (by omega), List.cons_append]
    exact congrArg _ ih
theorem addS_take {r : List Nd} (h : Canon r) (i : Nat) (hi : i < r.length) : addS r[i].1 r[i].2 (r.take i) = r.take (i + 1) := by
  have hp := h.cnt r[i] (List.getElem_mem hi)
  unfold addS
  rw [if_neg (by omega), put_last, List.take_succ_eq_append_getElem hi]
  intro p hm
  obtain ⟨j, hj, rfl⟩ := List.mem_iff_getElem.1 hm
  rw [List.length_take] at hj
  rw [List.getElem_take]
  exact List.pairwise_iff_getElem.1 h.rise j i (by omega) hi (by omega)
theorem canon_take {r : List Nd} (h : Canon r) (i : Nat) : Canon (r.take i) := ⟨h.rise.sublist (List.take_sublist i r), fun p hp => h.cnt p (List.mem_of_mem_take hp)⟩
theorem sum_take {r : List Nd} (h : Canon r) (i : Nat) : sumL (r.take i) ≤ sumL r := by
  have e : sumL (r.take i ++ r.drop i) = sumL (r.take i) + sumL (r.drop i) := sumL_append _ _
  rw [List.take_append_drop] at e
  have := sumL_nonneg (r.drop i) fun p hp => Int.le_of_lt (h.cnt p (List.mem_of_mem_drop hp))
  omega
set_option maxHeartbeats 1000000 in
theorem pool_put (p : Nat) (kd L : Int) (A : Option Addr) (c : Nat) (r : List Nd) (F : Nat → Prop) (w0 w : World) (h : PoolAt w p kd L [] F) (hb : Below w0.heap.size w0 w) (hr : Rd w0 A r.length 2 (ndc r)) (hp : w0.heap.size ≤ p) (hF : ∀ j, F j → w0.heap.size ≤ j)
    (hcn : Canon r) (hu : InU L r) (hs : sumL r ≤ 72057594037927935) (hl : r.length ≤ 1000000) (hL : L ≤ 48) :
    Calls Tryz.prog 148 #[.pointer (some ⟨p, 0, none⟩), .slice A r.length c] w fun e w' => (∃ v, e = .returned v) ∧ ∃ F', PoolAt w' p kd L r F' ∧ (∀ j, F' j → w0.heap.size ≤ j) ∧ Below w0.heap.size w0 w' := by
  have hrd := hide (fun (W : World) (hW : Below w0.heap.size w0 W) => hr.kept hW)
  have hst : ∃ F', PoolAt w p kd L (r.take 0) F' ∧ (∀ j, F' j → w0.heap.size ≤ j) := ⟨F, by rw [List.take_zero]; exact h, hF⟩
  replace hst := hide hst
  clear h hF hr
  obtain ⟨n, hn⟩ : ∃ n, Hid (r.length = n) := ⟨_, rfl⟩
  rw [hn.out] at hl
  have hadd := hide (fun i hi => addS_take hcn i hi)
  have hsum := hide (fun i => sum_take hcn i)
  have hcnt := hide hcn.cnt
  have huh := hide hu
  rw [hn.out]
  clear hcn hu
  have hL48 := pw_le48 hL
  generalize w = w1 at *
  go_enter Tryz.func148, Tryz.ntmps148
  go_wp2_with fail
  go_loopw [8] (fun k wr => ∃ (i : Nat), i ≤ n ∧ k = .int .i64 i ∧ Hid (∃ F', PoolAt wr p kd L (r.take i) F' ∧ (∀ j, F' j → w0.heap.size ≤ j)) ∧ Below w0.heap.size w0 wr) (fun k _ => n - (intOf k).toNat)
  case atStart => exact ⟨0, by omega, rfl, hst, hb⟩
  case round =>
    obtain ⟨i, hi, rfl, hst2, hbel⟩ := hrel
    clear hst hb
    by_cases hlt : i < n
    · have hil : i < r.length := by rw [hn.out]; exact hlt
      obtain ⟨b, off, rfl, hb, c0, c1⟩ := rd_at (hrd.out _ hbel) hil
      have ha := hadd.out i hil
      have hcp := hcnt.out _ (List.getElem_mem hil)
      have hur := huh.out _ (List.getElem_mem hil)
      have hsm := sumL_addS r[i].1 r[i].2 (r.take i)
      rw [ha] at hsm
      have hs1 := hsum.out (i + 1)
      obtain ⟨F1, hp1, hF1⟩ := hst2.out
      have hal := fun (V : World) (hV : Below wr.heap.size wr V) => pool_add p kd L r[i].1 r[i].2 (r.take i) F1 V (hp1.kept hV) hur.1 hur.2 (by omega) (by omega) (by rw [ha, List.length_take]; omega)
      rw [ha] at hal
      replace hal := hide hal
      clear hst2 hadd hsm ha hs1
      have hp1 := hide hp1
      generalize r[i] = q at *
      obtain ⟨x, y⟩ := q
      simp only at c0 c1 hal hur hcp
      go_wp2_with (go_at_call 43; refine (hal.out _ (balloc0 _ _)).mono ?_; rintro e w2 ⟨rfl, F2, hp2, ht2, hF2⟩; have hp2 := hide hp2; have hF2 := hide hF2; have ht2 := hide ht2)
      have hsz := hbel.size
      have hsa : wr.heap.size ≤ (wr.alloc (.cells #[.int .i64 x, .int .i64 y] 67)).heap.size := by simp
      go_roundw
      case rel =>
        refine ⟨i + 1, by omega, by go_num, ⟨F2, hp2.out, fun j hj => ?_⟩, (balloc0 wr _ |>.mono (by omega) |> fun hh => hbel.trans hh).trans (ht2.out.below _ (by omega) fun j hj hf => absurd (hF1 j hf) (by omega))⟩
        rcases hF2.out j hj with e | e
        · exact hF1 j e
        · omega
      case measure => simp [intOf]; omega
    · obtain rfl : i = n := by omega
      go_wp2_with fail
      go_end0
      obtain ⟨F2, hp2, hF2⟩ := hst2.out
      refine ⟨⟨_, rfl⟩, F2, ?_, hF2, hbel⟩
      rwa [← hn.out, List.take_length] at hp2
/-- What Load answers. -/
theorem pool_load_no (kd L : Int) (A : Option Addr) (c : Nat) (r : List Nd) (w : World) (hr : Rd w A r.length 2 (ndc r)) (hl : r.length ≤ 1000000) (hwf : NdWf r) (h : ¬ (kindB kd L = true ∧ rollB L r = true)) :
    Calls Tryz.prog 99 #[.int .i64 kd, .int .i64 L, .slice A r.length c] w fun e w' => (∃ z : Int, z ≠ 0 ∧ e = .returned (.tuple #[.pointer none, .int .i64 z])) ∧ Below w.heap.size w w' := by
  by_cases hk : kindB kd L = true
  · have hb : rollB L r = false := by
      rcases Bool.eq_false_or_eq_true (rollB L r) with e | e
      · exact absurd ⟨hk, e⟩ h
      · exact e
    have hN := hide (pool_new kd L w hk)
    have hR := hide (fun (W : World) (hW : Below w.heap.size w W) => roll_right L A c r W (hr.kept hW) hl hwf)
    rw [hb] at hR
    clear h hr hwf hk hb
    go_enter Tryz.func99, Tryz.ntmps99
    go_wp2_with fail
    refine Calls.mono hN.out ?_
    rintro e w1 ⟨p, F, rfl, hp, hpw, hF, hbel⟩
    have hR1 := hide (hR.out w1 hbel)
    have hbh := hide hbel
    clear hp hF hbel
    go_wp2_with fail
    refine Calls.mono hR1.out ?_
    rintro e w2 ⟨rfl, hb2⟩
    have hb2h := hide hb2
    have hsz := hbh.out.size
    clear hb2
    go_wp2_with fail
    go_ret2
    exact ⟨⟨10, by omega, rfl⟩, hbh.out.trans (hb2h.out.mono hsz)⟩
  · have hN := hide (pool_new_no kd L w (by simpa using hk))
    clear h hr hwf hk
    go_enter Tryz.func99, Tryz.ntmps99
    go_wp2_with fail
    refine Calls.mono hN.out ?_
    rintro e w1 ⟨rfl, hb2⟩
    have hbh := hide hb2
    clear hb2
    go_wp2_with fail
    go_ret2
    exact ⟨⟨2, by omega, rfl⟩, hbh.out⟩
set_option maxHeartbeats 1000000 in
theorem pool_load (kd L : Int) (A : Option Addr) (c : Nat) (r : List Nd) (w : World) (hr : Rd w A r.length 2 (ndc r)) (hl : r.length ≤ 1000000) (hwf : NdWf r) (hk : kindB kd L = true) (hb : rollB L r = true) :
    Calls Tryz.prog 99 #[.int .i64 kd, .int .i64 L, .slice A r.length c] w fun e w' => ∃ p F, e = .returned (.tuple #[.pointer (some ⟨p, 0, none⟩), .int .i64 0]) ∧ PoolAt w' p kd L r F ∧ w.heap.size ≤ p ∧ (∀ j, F j → w.heap.size ≤ j) ∧ Below w.heap.size w w' := by
  have hN := hide (pool_new kd L w hk)
  have hR := hide (fun (W : World) (hW : Below w.heap.size w W) => roll_right L A c r W (hr.kept hW) hl hwf)
  rw [hb] at hR
  obtain ⟨hcn, hu, hs, hL1, hL2⟩ := roll_facts hb
  have hP := hide (fun (p : Nat) (F : Nat → Prop) (W : World) (h : PoolAt W p kd L [] F) (hbb : Below w.heap.size w W) (hp : w.heap.size ≤ p) (hF : ∀ j, F j → w.heap.size ≤ j) => pool_put p kd L A c r F w W h hbb hr hp hF hcn hu hs hl hL2)
  clear hr hwf hk hb hcn hu hs
  go_enter Tryz.func99, Tryz.ntmps99
  go_wp2_with fail
  refine Calls.mono hN.out ?_
  rintro e w1 ⟨p, F, rfl, hp, hpw, hF, hbel⟩
  have hR1 := hide (hR.out w1 hbel)
  have hph := hide hp
  have hFh := hide hF
  have hbh := hide hbel
  clear hp hF hbel
  go_wp2_with fail
  refine Calls.mono hR1.out ?_
  rintro e w2 ⟨rfl, hb2⟩
  have hsz := hbh.out.size
  have hph2 := hide (hph.out.kept hb2)
  have hbh2 := hide (hbh.out.trans (hb2.mono hsz))
  clear hb2
  go_wp2_with fail
  refine Calls.mono (hP.out p F w2 hph2.out hbh2.out hpw hFh.out) ?_
  rintro e w3 ⟨⟨v, rfl⟩, F', hp3, hF3, hb3⟩
  have hp3 := hide hp3
  have hF3 := hide hF3
  have hb3 := hide hb3
  go_wp2_with fail
  go_ret2
  exact ⟨p, F', rfl, hp3.out, hpw, hF3.out, hb3.out⟩
end Go.Proofs.YteebghoijaaakaaGreat
/- The walks of layer 10: which node stands ahead, and the agenda's places. By the prover of this repo. -/
namespace Go.Proofs.YteebghoijaaakaaGreat
open Go.RowKit
open TwigM RollM StoM

theorem ahead_c (a b : Int) (w : World) (ha : a ≤ 9223372036854775807) (hb : b ≤ 9223372036854775807) :
    Calls Tryz.prog 180 #[.int .i64 a, .int .i64 b] w fun e w' => e = .returned (.bool (aheadF a b)) ∧ w = w' := by
  have h1 := hide (fun W => depth_c a W ha)
  have h2 := hide (fun W => depth_c b W hb)
  unfold aheadF
  generalize depthF a = x at *
  generalize depthF b = y at *
  obtain ⟨x, xo⟩ := x
  obtain ⟨y, yo⟩ := y
  by_cases h : x = y
  · simp only [h, if_true]
    subst h
    go_enter Tryz.func180, Tryz.ntmps180
    go_wp2_with fail
    refine Calls.mono (h1.out _) ?_
    rintro e w1 ⟨rfl, rfl⟩
    go_wp2_with fail
    refine Calls.mono (h2.out _) ?_
    rintro e w1 ⟨rfl, rfl⟩
    go_wp2_with fail
    go_ret
    exact ⟨rfl, rfl⟩
  · simp only [h, if_false]
    go_enter Tryz.func180, Tryz.ntmps180
    go_wp2_with fail
    refine Calls.mono (h1.out _) ?_
    rintro e w1 ⟨rfl, rfl⟩
    go_wp2_with fail
    refine Calls.mono (h2.out _) ?_
    rintro e w1 ⟨rfl, rfl⟩
    go_wp2_with fail
    go_ret
    exact ⟨rfl, rfl⟩
/-- Numbers, as values. -/
def hv (h : List Int) : List Value := h.map (Value.int .i64)
theorem hv_len (h : List Int) : (hv h).length = h.length := by simp [hv]
theorem hv_get (h : List Int) (i : Nat) (hi : i < h.length) : (hv h)[i]? = some (.int .i64 (h.getD i 0)) := by
  unfold hv
  rw [List.getElem?_map, List.getD_eq_getElem?_getD, List.getElem?_eq_getElem hi]; rfl
theorem hv_set (h : List Int) (i : Nat) (x : Int) : (hv h).set i (.int .i64 x) = hv (h.set i x) := by unfold hv; rw [List.map_set]
/-- An agenda's numbers, in a block of their own. -/
structure RowAt (w : World) (a g cap : Nat) (mv : Value) (h : List Int) : Prop where
  blk : Blk w a 225 #[.slice (some ⟨g, 0, none⟩) h.length cap, mv]
  row : w.ownsRow 0 3 1 (.slice (some ⟨g, 0, none⟩) h.length cap) h.length (hv h)
  ne : a ≠ g
section
variable {w : World} {a g cap : Nat} {mv : Value} {h : List Int}
theorem RowAt.at (r : RowAt w a g cap mv h) {i : Nat} (hi : i < h.length) : w.cell? ⟨g, i, none⟩ = some (.int .i64 (h.getD i 0)) ∧ w.frozen? ⟨g, i, none⟩ = false :=
  ⟨(r.row.cellAt i (by omega)).trans (hv_get h i hi), r.row.frozenAt i⟩
theorem RowAt.set (r : RowAt w a g cap mv h) (i : Nat) (x : Int) : RowAt (w.setCell ⟨g, i, none⟩ (.int .i64 x)) a g cap mv (h.set i x) := by
  have h2 := (r.row.stored i (.int .i64 x)).1
  rw [hv_set] at h2
  refine ⟨?_, ?_, r.ne⟩
  · rw [List.length_set]
    exact r.blk.off (p := ⟨g, i, none⟩) r.ne _
  · rw [List.length_set]
    exact h2
theorem RowAt.lt (r : RowAt w a g cap mv h) : a < w.heap.size ∧ g < w.heap.size := ⟨r.blk.lt, (r.row.lt g rfl).2⟩
theorem RowAt.drewN (r : RowAt w a g cap mv h) (n : Nat) : RowAt (w.drewN n) a g cap mv h := ⟨r.blk, r.row, r.ne⟩
end
set_option maxRecDepth 100000 in
set_option maxHeartbeats 2000000 in
theorem agd_swap (a g cap i j : Nat) (mv : Value) (h : List Int) (w : World) (r : RowAt w a g cap mv h) (hi : i < h.length) (hj : j < h.length) (hij : i ≠ j) (hl : h.length ≤ 1000000000) :
    Calls Tryz.prog 181 #[.pointer (some ⟨a, 0, none⟩), .int .i64 (i : Int), .int .i64 (j : Int)] w fun e w' => (∃ v, e = .returned v) ∧ RowAt w' a g cap mv (swapL h i j) ∧ Turn (fun x => x = g) w w' := by
  have c0 := r.blk.cell 0
  obtain ⟨ci, fi⟩ := r.at hi
  obtain ⟨cj, fj⟩ := r.at hj
  have hs : Hid (RowAt ((w.setCell ⟨g, i, none⟩ (.int .i64 (h.getD j 0))).setCell ⟨g, j, none⟩ (.int .i64 (h.getD i 0))) a g cap mv (swapL h i j)) := by
    have := (r.set i (h.getD j 0)).set j (h.getD i 0)
    exact this
  obtain ⟨ha, hg⟩ := r.lt
  have hne := r.ne
  generalize h.getD i 0 = x at *
  generalize h.getD j 0 = y at *
  generalize swapL h i j = h' at *
  obtain ⟨n, hn⟩ : ∃ n, h.length = n := ⟨_, rfl⟩
  rw [hn] at c0 hi hj hl
  have hi1 : (i : Int) < (n : Int) := by omega
  have hj1 : (j : Int) < (n : Int) := by omega
  clear r hn
  go_enter Tryz.func181, Tryz.ntmps181
  go_wp2_with fail
  go_region
  go_end0
  refine ⟨⟨_, rfl⟩, ⟨hs.out.blk, hs.out.row, hs.out.ne⟩, ?_⟩
  exact (((Turn.setCell w (fun x => x = g) ⟨g, i, none⟩ (.int .i64 y) rfl).trans (Turn.setCell _ (fun x => x = g) ⟨g, j, none⟩ (.int .i64 x) rfl) fun _ _ h => h).drewN 1)
/-- The first of a place and of the one behind it. -/
def midF (h : List Int) (i : Nat) : Nat := if 2 * i + 1 < h.length ∧ aheadF (h.getD (2 * i + 1) 0) (h.getD i 0) = true then 2 * i + 1 else i
theorem bestF_mid (h : List Int) (i : Nat) : bestF h i = if 2 * i + 2 < h.length ∧ aheadF (h.getD (2 * i + 2) 0) (h.getD (midF h i) 0) = true then 2 * i + 2 else midF h i := rfl
theorem midF_lt (h : List Int) (i : Nat) (hi : i < h.length) : midF h i < h.length := by
  unfold midF
  split
  · rename_i k; exact k.1
  · exact hi
theorem small_at {h : List Int} (hb : ∀ x ∈ h, x ≤ 9223372036854775807) (i : Nat) : h.getD i 0 ≤ 9223372036854775807 := by
  rw [List.getD_eq_getElem?_getD]
  by_cases hi : i < h.length
  · rw [List.getElem?_eq_getElem hi]; exact hb _ (List.getElem_mem hi)
  · rw [List.getElem?_eq_none (by omega)]; show (0 : Int) ≤ _; omega
theorem small_swap {h : List Int} {i j : Nat} (hi : i < h.length) (hj : j < h.length) {b : Int} (hb : ∀ x ∈ h, x ≤ b) : ∀ x ∈ swapL h i j, x ≤ b := fun x hx => hb x ((swapL_perm hi hj).mem_iff.1 hx)
set_option maxRecDepth 100000 in
set_option maxHeartbeats 4000000 in
theorem agd_sink (fu a g cap : Nat) (mv : Value) (h : List Int) (w : World) (r : RowAt w a g cap mv h) (hb : ∀ x ∈ h, x ≤ 9223372036854775807) (hl : h.length ≤ 1000000000) (hl0 : 0 < h.length) (hfu : h.length ≤ fu) :
    Calls Tryz.prog 178 #[.pointer (some ⟨a, 0, none⟩)] w fun e w' => (∃ v, e = .returned v) ∧ RowAt w' a g cap mv (dnG fu h 0) ∧ Turn (fun x => x = g) w w' := by
  obtain ⟨H, hH⟩ : ∃ H, Hid (dnG fu h 0 = H) := ⟨_, rfl⟩
  rw [hH.out]
  have r := hide r
  have hst : Hid (∀ x ∈ h, x ≤ 9223372036854775807) := hb
  clear hb
  obtain ⟨n, hn⟩ : ∃ n, Hid (h.length = n) := ⟨_, rfl⟩
  rw [hn.out] at hl hl0 hfu
  go_enter Tryz.func178, Tryz.ntmps178
  go_wp2_with fail
  go_loopw [2] (fun kv wr => ∃ (hh : List Int) (i f : Nat), kv = .int .i64 i ∧ i < n ∧ Hid (hh.length = n) ∧ Hid (n ≤ i + f) ∧ Hid (dnG f hh i = H) ∧ Hid (∀ x ∈ hh, x ≤ 9223372036854775807) ∧ Hid (RowAt wr a g cap mv hh) ∧ Hid (Turn (fun x => x = g) w wr)) (fun kv _ => n - (intOf kv).toNat)
  case atStart => exact ⟨h, 0, fu, rfl, hl0, hn, by show _ ≤ _; omega, hH, hst, r, Turn.refl _ _⟩
  case round =>
    obtain ⟨hh, i, f, rfl, hi, hlen, hf, hgo, hsm, hr, ht⟩ := hrel
    clear r hst hH
    have hmid := midF_lt hh i (by rw [hlen.out]; exact hi)
    rw [hlen.out] at hmid
    go_wp2_with fail
    go_loopw [3, 4] (fun fv kv wi => ∃ (fr kk : Nat), fv = .int .i64 fr ∧ kv = .int .i64 kk ∧ fr < n ∧ kk ≤ 2 * i + 3 ∧ Hid ((kk = 2 * i + 1 ∧ fr = i) ∨ (kk = 2 * i + 2 ∧ fr = midF hh i) ∨ (kk = 2 * i + 3 ∧ fr = bestF hh i)) ∧ Hid (RowAt wi a g cap mv hh) ∧ Hid (Turn (fun x => x = g) w wi)) (fun _ kv _ => 2 * i + 3 - (intOf kv).toNat)
    case atStart => exact ⟨i, 2 * i + 1, rfl, by go_num, hi, by omega, .inl ⟨rfl, rfl⟩, hr, ht⟩
    case round =>
      obtain ⟨fr, kk, rfl, rfl, hfr, hkk, hst2, hr2, ht2⟩ := hrel
      clear hr ht
      have c0 := hr2.out.blk.cell 0
      rw [show (#[Value.slice (some ⟨g, 0, none⟩) hh.length cap, mv] : Array Value)[0]? = some (.slice (some ⟨g, 0, none⟩) hh.length cap) from rfl, hlen.out] at c0
      by_cases hg1 : kk ≤ 2 * i + 2 ∧ kk < n
      · obtain ⟨hg1, hg2⟩ := hg1
        obtain ⟨ck, fk⟩ := hr2.out.at (i := kk) (by rw [hlen.out]; exact hg2)
        obtain ⟨cf, ff⟩ := hr2.out.at (i := fr) (by rw [hlen.out]; exact hfr)
        have hA := hide (fun W => ahead_c (hh.getD kk 0) (hh.getD fr 0) W (small_at hsm.out kk) (small_at hsm.out fr))
        have hnext : Hid (∀ b, aheadF (hh.getD kk 0) (hh.getD fr 0) = b → (kk + 1 = 2 * i + 2 ∧ (if b = true then kk else fr) = midF hh i) ∨ (kk + 1 = 2 * i + 3 ∧ (if b = true then kk else fr) = bestF hh i)) := by
          intro b hb
          rcases hst2.out with ⟨e1, e2⟩ | ⟨e1, e2⟩ | ⟨e1, e2⟩
          · left
            refine ⟨by omega, ?_⟩
            unfold midF
            subst e1 e2
            rw [hb]
            cases b
            · rw [if_neg (by simp), if_neg (by simp)]
            · rw [if_pos rfl, if_pos ⟨by rw [hlen.out]; exact hg2, rfl⟩]
          · right
            refine ⟨by omega, ?_⟩
            rw [bestF_mid, ← e2]
            subst e1
            rw [hb]
            cases b
            · rw [if_neg (by simp), if_neg (by simp)]
            · rw [if_pos rfl, if_pos ⟨by rw [hlen.out]; exact hg2, rfl⟩]
          · omega
        have hk1 : (kk : Int) < (n : Int) := by omega
        have hf1 : (fr : Int) < (n : Int) := by omega
        generalize hx : hh.getD kk 0 = x at *
        generalize hy : hh.getD fr 0 = y at *
        replace hx := hide hx
        replace hy := hide hy
        clear hst2
        by_cases hah : aheadF x y = true
        · rw [hah] at hA
          have hn2 := hide (hnext.out true hah)
          clear hnext hah
          go_wp2_with fail
          go_quiet ((go_at_call 180; exact quiet_same (hA.out _)))
          go_wp2_with fail
          go_roundw
          case rel => exact ⟨kk, kk + 1, rfl, by go_num, hg2, by omega, .inr (by simpa using hn2.out), hr2.out.drewN _, ht2.out.drewN _⟩
          case measure => simp [intOf]; omega
        · have hah2 : aheadF x y = false := by simpa using hah
          rw [hah2] at hA
          have hn2 := hide (hnext.out false hah2)
          clear hnext hah hah2
          go_wp2_with fail
          go_quiet ((go_at_call 180; exact quiet_same (hA.out _)))
          go_wp2_with fail
          go_roundw
          case rel => exact ⟨fr, kk + 1, rfl, by go_num, hfr, by omega, .inr (by simpa using hn2.out), hr2.out.drewN _, ht2.out.drewN _⟩
          case measure => simp [intOf]; omega
      · have hbest : Hid (fr = bestF hh i) := by
          show _ = _
          rcases hst2.out with ⟨e1, e2⟩ | ⟨e1, e2⟩ | ⟨e1, e2⟩
          · have : ¬ (2 * i + 1 < n) := by omega
            rw [bestF_mid, hlen.out, if_neg (by omega)]
            unfold midF
            rw [hlen.out, if_neg (by omega)]
            exact e2
          · have : ¬ (2 * i + 2 < n) := by omega
            rw [bestF_mid, hlen.out, if_neg (by omega)]
            exact e2
          · exact e2
        clear hst2
        have hbl := bestF_lt hh i (by rw [hlen.out]; exact hi)
        rw [hlen.out, ← hbest.out] at hbl
        have hcase : Hid (fr = i → hh = H) ∧ Hid (fr ≠ i → ∃ f', n ≤ fr + f' ∧ dnG f' (swapL hh i fr) fr = H) := by
          obtain ⟨f0, hf0⟩ : ∃ f0, f = f0 + 1 := ⟨f - 1, by have := hf.out; omega⟩
          have hg0 := hgo.out
          rw [hf0, dnG, ← hbest.out] at hg0
          refine ⟨fun e => ?_, fun e => ?_⟩
          · rw [if_pos e] at hg0; exact hg0
          · rw [if_neg e] at hg0
            exact ⟨f0, by have := hf.out; omega, hg0⟩
        obtain ⟨hc1, hc2⟩ := hcase
        have hblo := hbl.1
        clear hbest hbl
        rcases Nat.lt_or_ge (2 * i + 2) kk with hq | hq
        · clear hg1
          by_cases hfi : fr = i
          · have hc9 : hh = H := hc1.out hfi
            clear hc1 hc2
            subst hc9
            subst hfi
            go_wp2_with fail
            refine bodyPost_ret (results_none rfl _ _ _) rfl ?_
            exact ⟨⟨_, rfl⟩, hr2.out, ht2.out⟩
          · obtain ⟨f', hf1, hf2⟩ := hc2.out hfi
            have hf1 := hide hf1
            have hf2 := hide hf2
            have hS := hide (agd_swap a g cap i fr mv hh wr hr2.out (by rw [hlen.out]; exact hi) (by rw [hlen.out]; exact hfr) (by omega) (by rw [hlen.out]; exact hl))
            have hls : Hid ((swapL hh i fr).length = n) := (swapL_len hh i fr).trans hlen.out
            have hss : Hid (∀ x ∈ swapL hh i fr, x ≤ 9223372036854775807) := small_swap (by rw [hlen.out]; exact hi) (by rw [hlen.out]; exact hfr) hsm.out
            go_wp2_with fail
            refine Calls.mono hS.out ?_
            rintro e w3 ⟨⟨v3, rfl⟩, hr3, ht3⟩
            have hr3 := hide hr3
            have ht3 := hide ht3
            go_wp2_with fail
            go_roundw
            case rel => exact ⟨swapL hh i fr, fr, f', rfl, hfr, hls, hf1, hf2, hss, hr3, ht2.out.trans ht3.out fun _ _ h => h⟩
            case measure => simp [intOf]; omega
        · have hq2 : n ≤ kk := by omega
          clear hg1
          by_cases hfi : fr = i
          · have hc9 : hh = H := hc1.out hfi
            clear hc1 hc2
            subst hc9
            subst hfi
            go_wp2_with fail
            refine bodyPost_ret (results_none rfl _ _ _) rfl ?_
            exact ⟨⟨_, rfl⟩, hr2.out, ht2.out⟩
          · obtain ⟨f', hf1, hf2⟩ := hc2.out hfi
            have hf1 := hide hf1
            have hf2 := hide hf2
            have hS := hide (agd_swap a g cap i fr mv hh wr hr2.out (by rw [hlen.out]; exact hi) (by rw [hlen.out]; exact hfr) (by omega) (by rw [hlen.out]; exact hl))
            have hls : Hid ((swapL hh i fr).length = n) := (swapL_len hh i fr).trans hlen.out
            have hss : Hid (∀ x ∈ swapL hh i fr, x ≤ 9223372036854775807) := small_swap (by rw [hlen.out]; exact hi) (by rw [hlen.out]; exact hfr) hsm.out
            go_wp2_with fail
            refine Calls.mono hS.out ?_
            rintro e w3 ⟨⟨v3, rfl⟩, hr3, ht3⟩
            have hr3 := hide hr3
            have ht3 := hide ht3
            go_wp2_with fail
            go_roundw
            case rel => exact ⟨swapL hh i fr, fr, f', rfl, hfr, hls, hf1, hf2, hss, hr3, ht2.out.trans ht3.out fun _ _ h => h⟩
            case measure => simp [intOf]; omega
end Go.Proofs.YteebghoijaaakaaGreat

/- Part 13 of the proof: texts joined by this repo's tools/merge.py (PrbS Pool PoolB). By the prover of this repo. -/
import Derived.Test.YtfjgpjgphdiliaaGreatM12
import Derived.Test.YtfjgpjgphdiliaaGreatM8
set_option linter.unusedVariables false
set_option linter.unusedSimpArgs false
/- The walks of layer 8, on: all nodes, by rising numbers. By the prover of this repo. -/
namespace Go.Proofs.YtfjgpjgphdiliaaGreat
open Go.RowKit
open TwigM RollM StoM

theorem occ_take_snoc (S : List Nd) (i : Nat) (hi : i < S.length) : occ (S.take (i + 1)) = occ (S.take i) ++ if cntA S i = 0 ∨ cntA S i < 0 then [] else [(idA S i, cntA S i)] := by
  have e : S.take (i + 1) = S.take i ++ [S[i]] := List.take_succ_eq_append_getElem hi
  have e2 : occ (S.take i ++ [S[i]]) = occ (S.take i) ++ occ [S[i]] := by unfold occ; rw [List.filter_append]
  have h1 : (idA S i, cntA S i) = S[i] := by unfold idA cntA; rw [getD_of hi]
  have h2 : cntA S i = S[i].2 := by unfold cntA; rw [getD_of hi]
  rw [e, e2, h1]
  congr 1
  unfold occ
  by_cases hc : 0 < S[i].2
  · rw [List.filter_cons_of_pos (by simpa using hc), if_neg (by omega)]; rfl
  · rw [List.filter_cons_of_neg (by simpa using hc), if_pos (by omega)]; rfl
theorem occ_take_len (S : List Nd) (i : Nat) : (occ (S.take i)).length ≤ (occ S).length := by
  unfold occ
  exact ((List.take_prefix i S).sublist.filter _).length_le
set_option maxRecDepth 100000 in
set_option maxHeartbeats 1000000 in
theorem probe_snap (g b k : Nat) (S : List Nd) (L : Int) (l : List Nd) (w : World) (h : PrbAt w g b k S L l) (hcn : Canon l) (hlen : l.length ≤ 1000000) (hk : k ≤ 26) :
    Calls Tryz.prog 88 #[.pointer (some ⟨g, 0, none⟩)] w fun e w' => ∃ v, e = .returned v ∧ w'.ownsRow w.heap.size 76 2 v l.length (ndv l) ∧ Below w.heap.size w w' := by
  obtain ⟨-, -, -, -, c4, -⟩ := h.raw.cells
  obtain ⟨hbig1, hbig2⟩ := h.raw.big
  have hSl := h.raw.len
  have hat := hide (fun (W : World) (hW : Below w.heap.size w W) (i : Nat) (hi : i < S.length) => nd_cells (h.raw.arr.kept hW) hi)
  have hpos := hide h.tab.pos
  have hsrt := hide (h.tab.sorted hcn)
  have hocl := hide (h.tab.len hcn)
  have hblt := h.raw.lt.2
  have htk := hide (fun i (hi : i < S.length) => occ_take_snoc S i hi)
  have htl := hide (fun i => occ_take_len S i)
  obtain ⟨n, hn⟩ : ∃ n, 2 ^ k = n := ⟨_, rfl⟩
  rw [hn] at c4 hbig1 hbig2 hSl
  have hSh := hide hSl
  clear h hn
  go_enter Tryz.func88, Tryz.ntmps88
  go_wp2_with fail
  go_loopw [3, 13] (fun out kv wr => ∃ (i : Nat), kv = .int .i64 i ∧ i ≤ n ∧ wr.ownsRow w.heap.size 76 2 out (occ (S.take i)).length (ndv (occ (S.take i))) ∧ Below w.heap.size w wr) (fun _ kv _ => n - (intOf kv).toNat)
  case atStart => exact ⟨0, rfl, Nat.zero_le _, World.ownsRow_nil _ _ _ _, Below.refl _ _⟩
  case round =>
    obtain ⟨i, rfl, hi, how, hbel⟩ := hrel
    have hsz := hbel.size
    have hb2 : b < wr.heap.size := by omega
    by_cases hlt2 : i < n
    · obtain ⟨d0, d1⟩ := hat.out wr hbel i (by rw [hSh.out]; exact hlt2)
      have hs := hide (htk.out i (by rw [hSh.out]; exact hlt2))
      have hl0 := htl.out i
      have hp := hpos.out i
      rw [hocl.out] at hl0
      by_cases h0 : cntA S i = 0
      · have hs2 : Hid (occ (S.take (i + 1)) = occ (S.take i)) := by show _ = _; rw [hs.out, if_pos (Or.inl h0), List.append_nil]
        rw [h0] at d1
        generalize idA S i = ii at *
        generalize occ (S.take i) = acc at *
        have hbh := hide hbel
        obtain ⟨m, hmm⟩ : ∃ m, Hid (acc.length = m) := ⟨_, rfl⟩
        rw [hmm.out] at how hl0
        have howh := hide how
        obtain ⟨Ao, co, rfl⟩ := own_len how
        clear how hbel
        go_wp2_with fail
        go_roundw
        case rel => exact ⟨i + 1, by go_num, by omega, by rw [hs2.out, hmm.out]; exact howh.out.alloc _, balloc hbh.out _⟩
        case measure => simp [intOf]; omega
      · have hcp : 0 < cntA S i := by omega
        have hs2 : Hid (occ (S.take (i + 1)) = occ (S.take i) ++ [(idA S i, cntA S i)]) := by show _ = _; rw [hs.out, if_neg (by omega)]
        generalize idA S i = ii at *
        generalize cntA S i = ci at *
        generalize occ (S.take i) = acc at *
        obtain ⟨m, hmm⟩ : ∃ m, Hid (acc.length = m) := ⟨_, rfl⟩
        rw [hmm.out] at how hl0
        obtain ⟨Ao, co, rfl⟩ := own_len how
        have hbh := hide hbel
        have howa := fun (o : Obj) => how.alloc o
        replace howa := hide howa
        clear hbel how
        go_wp2_with (at_builtin; refine wpList_app1 elNode rfl (.tmp 20) (.tmp 22) rfl w.heap.size _ _ _ [.int .i64 ii, .int .i64 ci] 76 rfl (howa.out _) (show Value.slice (some ⟨wr.heap.size + 1, 0, none⟩) 1 1 = .slice (some ⟨(wr.alloc _).heap.size, 0, none⟩) 1 1 from by simp) rfl (nd_ones (ii, ci)) (by omega) (by simp; omega) ?_; intro v1 w1 how1 hb1 hgr1 hat1; have how1 := hide how1; have hb1 := hide hb1; clear hgr1 hat1)
        go_roundw
        case rel => exact ⟨i + 1, by go_num, by omega, by rw [hs2.out, List.length_append, ndv_snoc, hmm.out]; exact how1.out, (balloc hbh.out _).trans hb1.out⟩
        case measure => simp [intOf]; omega
    · obtain rfl : i = n := by omega
      rw [List.take_of_length_le (by rw [hSh.out]; exact Nat.le_refl _)] at how
      obtain ⟨A, c, rfl, q1, q2, q3, q4⟩ := own_nds how
      have hS := hide (roll_sorted_o A c (occ S) wr q4 q1 q2 q3 (by rw [hocl.out]; exact hlen))
      rw [hsrt.out, hocl.out] at hS
      rw [hocl.out]
      have hbh := hide hbel
      clear how hbel q1 q2 q3 q4
      go_wp2_with fail
      refine Calls.mono hS.out ?_
      rintro e w2 ⟨v, rfl, how2, hb3⟩
      have how2 := hide (own_low hsz how2)
      have hb4 := hide (hbh.out.trans (hb3.mono hsz))
      clear hb3
      go_wp2_with fail
      go_ret
      exact ⟨_, rfl, how2.out, hb4.out⟩
end Go.Proofs.YtfjgpjgphdiliaaGreat
/- The walks of layer 9: one of the two stores of weighed nodes. By the prover of this repo. -/
namespace Go.Proofs.YtfjgpjgphdiliaaGreat
open Go.RowKit
open TwigM RollM StoM

/-- A store of weighed nodes, of one kind or the other, in block p; its own blocks are F. -/
structure PoolAt (w : World) (p : Nat) (kd L : Int) (l : List Nd) (F : Nat → Prop) : Prop where
  canon : Canon l
  inU : InU L l
  sum : sumL l ≤ 72057594037927935
  len : l.length ≤ 1000000
  out : ¬ F p
  kind : (kd = 1 ∧ ∃ g b, Blk w p 99 #[.pointer (some ⟨g, 0, none⟩), .pointer none] ∧ DenAt w g b L l ∧ F = fun j => j = g ∨ j = b) ∨
    (kd = 2 ∧ ∃ g b k S, Blk w p 99 #[.pointer none, .pointer (some ⟨g, 0, none⟩)] ∧ PrbAt w g b k S L l ∧ k ≤ 26 ∧ F = fun j => j = g ∨ j = b)
section
variable {w : World} {p : Nat} {kd L : Int} {l : List Nd} {F : Nat → Prop}
theorem PoolAt.turned {w' : World} {S : Nat → Prop} (h : PoolAt w p kd L l F) (t : Turn S w w') (h1 : ¬ S p) (h2 : ∀ j, F j → ¬ S j) : PoolAt w' p kd L l F := by
  refine ⟨h.canon, h.inU, h.sum, h.len, h.out, ?_⟩
  rcases h.kind with ⟨hk, g, b, hb, hd, rfl⟩ | ⟨hk, g, b, k, R, hb, hd, hk2, rfl⟩
  · exact .inl ⟨hk, g, b, hb.turned t h1, hd.turned t (h2 g (.inl rfl)) (h2 b (.inr rfl)), rfl⟩
  · exact .inr ⟨hk, g, b, k, R, hb.turned t h1, hd.turned t (h2 g (.inl rfl)) (h2 b (.inr rfl)), hk2, rfl⟩
theorem PoolAt.kept {w' : World} (h : PoolAt w p kd L l F) (t : Below w.heap.size w w') : PoolAt w' p kd L l F :=
  h.turned (Below.turn t fun _ => False) (fun h => h) fun _ _ h => h
theorem PoolAt.lt (h : PoolAt w p kd L l F) : p < w.heap.size ∧ ∀ j, F j → j < w.heap.size := by
  rcases h.kind with ⟨hk, g, b, hb, hd, rfl⟩ | ⟨hk, g, b, k, R, hb, hd, hk2, rfl⟩
  · exact ⟨hb.lt, fun j hj => hj.elim (fun e => e ▸ hd.lt.1) fun e => e ▸ hd.lt.2⟩
  · exact ⟨hb.lt, fun j hj => hj.elim (fun e => e ▸ hd.raw.lt.1) fun e => e ▸ hd.raw.lt.2⟩
theorem PoolAt.two (h : PoolAt w p kd L l F) : (kd = 1 ∧ 1 ≤ L ∧ L ≤ 16) ∨ (kd = 2 ∧ 1 ≤ L ∧ L ≤ 48) := by
  rcases h.kind with ⟨hk, g, b, hb, hd, rfl⟩ | ⟨hk, g, b, k, R, hb, hd, hk2, rfl⟩
  · exact .inl ⟨hk, hd.l1, hd.l2⟩
  · exact .inr ⟨hk, hd.l1, hd.l2⟩
end
theorem pool_arr (p g : Nat) (w : World) (c0 : w.cell? ⟨p, 0, none⟩ = some (.pointer (some ⟨g, 0, none⟩))) :
    Calls Tryz.prog 61 #[.pointer (some ⟨p, 0, none⟩)] w fun e w' => e = .returned (.bool true) ∧ w = w' := by
  go_enter Tryz.func61, Tryz.ntmps61
  go_wp2_with fail
  go_ret
  exact ⟨rfl, rfl⟩
theorem pool_not (p : Nat) (w : World) (c0 : w.cell? ⟨p, 0, none⟩ = some (.pointer none)) :
    Calls Tryz.prog 61 #[.pointer (some ⟨p, 0, none⟩)] w fun e w' => e = .returned (.bool false) ∧ w = w' := by
  go_enter Tryz.func61, Tryz.ntmps61
  go_wp2_with fail
  go_ret
  exact ⟨rfl, rfl⟩
theorem pool_inner (p : Nat) (v : Value) (w : World) (c1 : w.cell? ⟨p, 1, none⟩ = some v) :
    Calls Tryz.prog 63 #[.pointer (some ⟨p, 0, none⟩)] w fun e w' => e = .returned v ∧ w = w' := by
  go_enter Tryz.func63, Tryz.ntmps63
  go_wp2_with fail
  go_ret
  exact ⟨rfl, rfl⟩
theorem pool_kind (p : Nat) (kd L : Int) (l : List Nd) (F : Nat → Prop) (w : World) (h : PoolAt w p kd L l F) :
    Calls Tryz.prog 26 #[.pointer (some ⟨p, 0, none⟩)] w fun e w' => e = .returned (.int .i64 kd) ∧ Below w.heap.size w w' := by
  rcases h.kind with ⟨rfl, g, b, hb, hd, -⟩ | ⟨rfl, g, b, k, R, hb, hd, hk2, -⟩
  · have c0 := hb.cell 0
    have hI := hide (pool_arr p g w c0)
    clear h hb hd
    go_enter Tryz.func26, Tryz.ntmps26
    go_wp2_with fail
    refine Calls.mono hI.out ?_
    rintro e w1 ⟨rfl, rfl⟩
    go_wp2_with fail
    go_ret
    exact ⟨rfl, Below.refl _ _⟩
  · have c0 := hb.cell 0
    have hI := hide (pool_not p w c0)
    clear h hb hd
    go_enter Tryz.func26, Tryz.ntmps26
    go_wp2_with fail
    refine Calls.mono hI.out ?_
    rintro e w1 ⟨rfl, rfl⟩
    go_wp2_with fail
    go_ret
    exact ⟨rfl, Below.refl _ _⟩
theorem pool_l (p : Nat) (kd L : Int) (l : List Nd) (F : Nat → Prop) (w : World) (h : PoolAt w p kd L l F) :
    Calls Tryz.prog 25 #[.pointer (some ⟨p, 0, none⟩)] w fun e w' => e = .returned (.int .i64 L) ∧ Below w.heap.size w w' := by
  rcases h.kind with ⟨rfl, g, b, hb, hd, -⟩ | ⟨rfl, g, b, k, R, hb, hd, hk2, -⟩
  · have c0 := hb.cell 0
    have c1 := hb.cell 1
    have hI := hide (pool_arr p g w c0)
    have hC := hide (dense_l g b L l w hd)
    clear h hb hd
    go_enter Tryz.func25, Tryz.ntmps25
    go_wp2_with fail
    refine Calls.mono hI.out ?_
    rintro e w1 ⟨rfl, rfl⟩
    go_wp2_with fail
    refine Calls.mono hC.out ?_
    rintro e w1 ⟨rfl, rfl⟩
    go_wp2_with fail
    go_ret
    exact ⟨rfl, Below.refl _ _⟩
  · have c0 := hb.cell 0
    have c1 := hb.cell 1
    have hI := hide (pool_not p w c0)
    have hJ := hide (pool_inner p _ w c1)
    have hC := hide (probe_l g b k R L _ _ w hd.raw)
    clear h hb hd
    go_enter Tryz.func25, Tryz.ntmps25
    go_wp2_with fail
    refine Calls.mono hI.out ?_
    rintro e w1 ⟨rfl, rfl⟩
    go_wp2_with fail
    refine Calls.mono hJ.out ?_
    rintro e w1 ⟨rfl, rfl⟩
    go_wp2_with fail
    refine Calls.mono hC.out ?_
    rintro e w1 ⟨rfl, rfl⟩
    go_wp2_with fail
    go_ret
    exact ⟨rfl, Below.refl _ _⟩
theorem pool_len (p : Nat) (kd L : Int) (l : List Nd) (F : Nat → Prop) (w : World) (h : PoolAt w p kd L l F) :
    Calls Tryz.prog 69 #[.pointer (some ⟨p, 0, none⟩)] w fun e w' => e = .returned (.int .i64 (l.length : Int)) ∧ Below w.heap.size w w' := by
  rcases h.kind with ⟨rfl, g, b, hb, hd, -⟩ | ⟨rfl, g, b, k, R, hb, hd, hk2, -⟩
  · have c0 := hb.cell 0
    have c1 := hb.cell 1
    have hI := hide (pool_arr p g w c0)
    have hC := hide (dense_len g b L l w hd)
    clear h hb hd
    go_enter Tryz.func69, Tryz.ntmps69
    go_wp2_with fail
    refine Calls.mono hI.out ?_
    rintro e w1 ⟨rfl, rfl⟩
    go_wp2_with fail
    refine Calls.mono hC.out ?_
    rintro e w1 ⟨rfl, rfl⟩
    go_wp2_with fail
    go_ret
    exact ⟨rfl, Below.refl _ _⟩
  · have c0 := hb.cell 0
    have c1 := hb.cell 1
    have hI := hide (pool_not p w c0)
    have hJ := hide (pool_inner p _ w c1)
    have hC := hide (probe_len g b k R L _ _ w hd.raw)
    clear h hb hd
    go_enter Tryz.func69, Tryz.ntmps69
    go_wp2_with fail
    refine Calls.mono hI.out ?_
    rintro e w1 ⟨rfl, rfl⟩
    go_wp2_with fail
    refine Calls.mono hJ.out ?_
    rintro e w1 ⟨rfl, rfl⟩
    go_wp2_with fail
    refine Calls.mono hC.out ?_
    rintro e w1 ⟨rfl, rfl⟩
    go_wp2_with fail
    go_ret
    exact ⟨rfl, Below.refl _ _⟩
theorem pool_total (p : Nat) (kd L : Int) (l : List Nd) (F : Nat → Prop) (w : World) (h : PoolAt w p kd L l F) :
    Calls Tryz.prog 38 #[.pointer (some ⟨p, 0, none⟩)] w fun e w' => e = .returned (.int .i64 (sumL l)) ∧ Below w.heap.size w w' := by
  rcases h.kind with ⟨rfl, g, b, hb, hd, -⟩ | ⟨rfl, g, b, k, R, hb, hd, hk2, -⟩
  · have c0 := hb.cell 0
    have c1 := hb.cell 1
    have hI := hide (pool_arr p g w c0)
    have hC := hide (dense_total g b L l w hd)
    clear h hb hd
    go_enter Tryz.func38, Tryz.ntmps38
    go_wp2_with fail
    refine Calls.mono hI.out ?_
    rintro e w1 ⟨rfl, rfl⟩
    go_wp2_with fail
    refine Calls.mono hC.out ?_
    rintro e w1 ⟨rfl, rfl⟩
    go_wp2_with fail
    go_ret
    exact ⟨rfl, Below.refl _ _⟩
  · have c0 := hb.cell 0
    have c1 := hb.cell 1
    have hI := hide (pool_not p w c0)
    have hJ := hide (pool_inner p _ w c1)
    have hC := hide (probe_total g b k R L _ _ w hd.raw)
    clear h hb hd
    go_enter Tryz.func38, Tryz.ntmps38
    go_wp2_with fail
    refine Calls.mono hI.out ?_
    rintro e w1 ⟨rfl, rfl⟩
    go_wp2_with fail
    refine Calls.mono hJ.out ?_
    rintro e w1 ⟨rfl, rfl⟩
    go_wp2_with fail
    refine Calls.mono hC.out ?_
    rintro e w1 ⟨rfl, rfl⟩
    go_wp2_with fail
    go_ret
    exact ⟨rfl, Below.refl _ _⟩
theorem pool_get (p : Nat) (kd L x : Int) (l : List Nd) (F : Nat → Prop) (w : World) (h : PoolAt w p kd L l F) (hx : x ≤ 9223372036854775807) :
    Calls Tryz.prog 39 #[.pointer (some ⟨p, 0, none⟩), .int .i64 x] w fun e w' => e = .returned (.int .i64 (wt x l)) ∧ Below w.heap.size w w' := by
  rcases h.kind with ⟨rfl, g, b, hb, hd, -⟩ | ⟨rfl, g, b, k, R, hb, hd, hk2, -⟩
  · have c0 := hb.cell 0
    have c1 := hb.cell 1
    have hI := hide (pool_arr p g w c0)
    have hC := hide (dense_get g b L x l w hd h.inU hx)
    clear h hb hd
    go_enter Tryz.func39, Tryz.ntmps39
    go_wp2_with fail
    refine Calls.mono hI.out ?_
    rintro e w1 ⟨rfl, rfl⟩
    go_wp2_with fail
    refine Calls.mono hC.out ?_
    rintro e w1 ⟨rfl, rfl⟩
    go_wp2_with fail
    go_ret
    exact ⟨rfl, Below.refl _ _⟩
  · have c0 := hb.cell 0
    have c1 := hb.cell 1
    have hI := hide (pool_not p w c0)
    have hJ := hide (pool_inner p _ w c1)
    have hC := hide (probe_get g b k R L x l w hd h.canon h.inU)
    clear h hb hd
    go_enter Tryz.func39, Tryz.ntmps39
    go_wp2_with fail
    refine Calls.mono hI.out ?_
    rintro e w1 ⟨rfl, rfl⟩
    go_wp2_with fail
    refine Calls.mono hJ.out ?_
    rintro e w1 ⟨rfl, rfl⟩
    go_wp2_with fail
    refine Calls.mono hC.out ?_
    rintro e w1 ⟨rfl, hb1⟩
    go_wp2_with fail
    go_ret
    exact ⟨rfl, hb1⟩
theorem pool_snap (p : Nat) (kd L : Int) (l : List Nd) (F : Nat → Prop) (w : World) (h : PoolAt w p kd L l F) :
    Calls Tryz.prog 56 #[.pointer (some ⟨p, 0, none⟩)] w fun e w' => ∃ v, e = .returned v ∧ w'.ownsRow w.heap.size 76 2 v l.length (ndv l) ∧ Below w.heap.size w w' := by
  rcases h.kind with ⟨rfl, g, b, hb, hd, -⟩ | ⟨rfl, g, b, k, R, hb, hd, hk2, -⟩
  · have c0 := hb.cell 0
    have c1 := hb.cell 1
    have hI := hide (pool_arr p g w c0)
    have hC := hide (dense_snap g b L l w hd h.canon h.inU h.len)
    clear h hb hd
    go_enter Tryz.func56, Tryz.ntmps56
    go_wp2_with fail
    refine Calls.mono hI.out ?_
    rintro e w1 ⟨rfl, rfl⟩
    go_wp2_with fail
    refine Calls.mono hC.out ?_
    rintro e w1 ⟨v, rfl, hv, hb1⟩
    go_wp2_with fail
    go_ret
    exact ⟨v, rfl, hv, hb1⟩
  · have c0 := hb.cell 0
    have c1 := hb.cell 1
    have hI := hide (pool_not p w c0)
    have hJ := hide (pool_inner p _ w c1)
    have hC := hide (probe_snap g b k R L l w hd h.canon h.len (by omega))
    clear h hb hd
    go_enter Tryz.func56, Tryz.ntmps56
    go_wp2_with fail
    refine Calls.mono hI.out ?_
    rintro e w1 ⟨rfl, rfl⟩
    go_wp2_with fail
    refine Calls.mono hJ.out ?_
    rintro e w1 ⟨rfl, rfl⟩
    go_wp2_with fail
    refine Calls.mono hC.out ?_
    rintro e w1 ⟨v, rfl, hv, hb1⟩
    go_wp2_with fail
    go_ret
    exact ⟨v, rfl, hv, hb1⟩
theorem wt_le_sum {l : List Nd} (h : Canon l) (x : Int) : wt x l ≤ sumL l := by
  have := sumM_split (fun _ => 1) x l
  rw [← sumL_M] at this
  have h2 := sumM_nonneg (g := fun _ => 1) (l := del x l) (fun p hp => h.cntL p (del_mem.1 hp).1) (fun _ _ => by omega)
  omega
theorem inU_del' {L : Int} {l : List Nd} (h : InU L l) (x : Int) : InU L (del x l) := fun p hp => h p (del_mem.1 hp).1
set_option maxHeartbeats 1000000 in
theorem pool_add (p : Nat) (kd L x c : Int) (l : List Nd) (F : Nat → Prop) (w : World) (h : PoolAt w p kd L l F) (hx1 : 1 ≤ x) (hx2 : x < 2 * pw L) (hc : 0 ≤ c) (hs : sumL l + c ≤ 72057594037927935) (hl : (addS x c l).length ≤ 1000000) :
    Calls Tryz.prog 41 #[.pointer (some ⟨p, 0, none⟩), .int .i64 x, .int .i64 c] w fun e w' => e = .returned (.int .i64 0) ∧ ∃ F', PoolAt w' p kd L (addS x c l) F' ∧ Turn F w w' ∧ ∀ j, F' j → F j ∨ w.heap.size ≤ j := by
  have hcn := canon_addS (id := x) h.canon hc
  have hu := inU_addS (c := c) h.inU hx1 hx2
  have hsm := sumL_addS x c l
  have hlt := h.lt.1
  have hout := h.out
  rcases h.kind with ⟨rfl, g, b, hb, hd, rfl⟩ | ⟨rfl, g, b, k, R, hb, hd, hk2, rfl⟩
  · have c0 := hb.cell 0
    have hI := hide (pool_arr p g w c0)
    have hC := hide (dense_add g b L x c l w hd h.canon hx1 hx2 hc hs (by have := h.len; omega))
    have hbh := hide hb
    clear h hb hd
    replace hu := hide hu
    replace hout := hide hout
    go_enter Tryz.func41, Tryz.ntmps41
    go_wp2_with fail
    refine Calls.mono hI.out ?_
    rintro e w1 ⟨rfl, rfl⟩
    go_wp2_with fail
    refine Calls.mono hC.out ?_
    rintro e w1 ⟨rfl, hd1, ht⟩
    go_wp2_with fail
    go_ret
    exact ⟨rfl, _, ⟨hcn, hu.out, by omega, hl, hout.out, .inl ⟨rfl, g, b, hbh.out.turned ht hout.out, hd1, rfl⟩⟩, ht, fun j hj => .inl hj⟩
  · have c0 := hb.cell 0
    have c1 := hb.cell 1
    have hI := hide (pool_not p w c0)
    have hJ := hide (pool_inner p _ w c1)
    have hC := hide (probe_add g b k R L x c l w hd h.canon h.inU hx1 hx2 hc hs h.len hk2)
    have hbh := hide hb
    clear h hb hd
    replace hu := hide hu
    replace hout := hide hout
    go_enter Tryz.func41, Tryz.ntmps41
    go_wp2_with fail
    refine Calls.mono hI.out ?_
    rintro e w1 ⟨rfl, rfl⟩
    go_wp2_with fail
    refine Calls.mono hJ.out ?_
    rintro e w1 ⟨rfl, rfl⟩
    go_wp2_with fail
    refine Calls.mono hC.out ?_
    rintro e w1 ⟨rfl, b', k', S', hd1, hk', hbb, ht⟩
    go_wp2_with fail
    go_ret
    have hout2 : ¬ (p = g ∨ p = b') := by
      have hg : ¬ (p = g ∨ p = b) := hout.out
      rintro (e | e)
      · exact hg (.inl e)
      · rcases hbb with rfl | hbb
        · exact hg (.inr e)
        · omega
    refine ⟨rfl, _, ⟨hcn, hu.out, by omega, hl, hout2, .inr ⟨rfl, g, b', k', S', hbh.out.turned ht hout.out, hd1, hk', rfl⟩⟩, ht, ?_⟩
    rintro j (e | e)
    · exact .inl (.inl e)
    · rcases hbb with rfl | hbb
      · exact .inl (.inr e)
      · right; omega
set_option maxHeartbeats 1000000 in
theorem pool_take (p : Nat) (kd L x : Int) (l : List Nd) (F : Nat → Prop) (w : World) (h : PoolAt w p kd L l F) (hx : x ≤ 9223372036854775807) :
    Calls Tryz.prog 57 #[.pointer (some ⟨p, 0, none⟩), .int .i64 x] w fun e w' => e = .returned (.int .i64 (wt x l)) ∧ PoolAt w' p kd L (del x l) F ∧ Turn F w w' := by
  have hcn := canon_del h.canon x
  have hu := inU_del' h.inU x
  have hsm := sumL_del x l
  have hw0 := wt_nonneg x l h.canon.cntL
  have hs0 := h.sum
  have hll : (del x l).length ≤ l.length := List.length_filter_le _ _
  have hl0 := h.len
  have hlt := h.lt.1
  have hout := h.out
  rcases h.kind with ⟨rfl, g, b, hb, hd, rfl⟩ | ⟨rfl, g, b, k, R, hb, hd, hk2, rfl⟩
  · have c0 := hb.cell 0
    have hI := hide (pool_arr p g w c0)
    have hC := hide (dense_take g b L x l w hd h.canon h.inU h.sum hx (by have := h.len; omega))
    have hbh := hide hb
    clear h hb hd
    replace hu := hide hu
    replace hout := hide hout
    go_enter Tryz.func57, Tryz.ntmps57
    go_wp2_with fail
    refine Calls.mono hI.out ?_
    rintro e w1 ⟨rfl, rfl⟩
    go_wp2_with fail
    refine Calls.mono hC.out ?_
    rintro e w1 ⟨rfl, hd1, ht⟩
    go_wp2_with fail
    go_ret
    exact ⟨rfl, ⟨hcn, hu.out, by omega, by omega, hout.out, .inl ⟨rfl, g, b, hbh.out.turned ht hout.out, hd1, rfl⟩⟩, ht⟩
  · have c0 := hb.cell 0
    have c1 := hb.cell 1
    have hI := hide (pool_not p w c0)
    have hJ := hide (pool_inner p _ w c1)
    have hC := hide (probe_take g b k R L x l w hd h.canon h.inU h.sum h.len hk2)
    have hbh := hide hb
    clear h hb hd
    replace hu := hide hu
    replace hout := hide hout
    go_enter Tryz.func57, Tryz.ntmps57
    go_wp2_with fail
    refine Calls.mono hI.out ?_
    rintro e w1 ⟨rfl, rfl⟩
    go_wp2_with fail
    refine Calls.mono hJ.out ?_
    rintro e w1 ⟨rfl, rfl⟩
    go_wp2_with fail
    refine Calls.mono hC.out ?_
    rintro e w1 ⟨rfl, S', hd1, ht⟩
    go_wp2_with fail
    go_ret
    exact ⟨rfl, ⟨hcn, hu.out, by omega, by omega, hout.out, .inr ⟨rfl, g, b, k, S', hbh.out.turned ht hout.out, hd1, hk2, rfl⟩⟩, ht⟩
/-- What a new store takes. -/
def kindB (kd L : Int) : Bool := (decide (kd = 1) && (decide (1 ≤ L) && decide (L ≤ 16))) || (decide (kd = 2) && (decide (1 ≤ L) && decide (L ≤ 48)))
theorem PoolAt.at1 {w : World} {q g b : Nat} {L : Int} (hb : Blk w q 99 #[.pointer (some ⟨g, 0, none⟩), .pointer none]) (hd : DenAt w g b L []) (h1 : q ≠ g) (h2 : q ≠ b) : PoolAt w q 1 L [] fun j => j = g ∨ j = b :=
  ⟨⟨List.Pairwise.nil, fun _ h => absurd h (by simp)⟩, fun _ h => absurd h (by simp), by simp [sumL], by simp, fun e => e.elim h1 h2, .inl ⟨rfl, g, b, hb, hd, rfl⟩⟩
theorem PoolAt.at2 {w : World} {q g b k : Nat} {S : List Nd} {L : Int} (hb : Blk w q 99 #[.pointer none, .pointer (some ⟨g, 0, none⟩)]) (hd : PrbAt w g b k S L []) (hk : k ≤ 26) (h1 : q ≠ g) (h2 : q ≠ b) : PoolAt w q 2 L [] fun j => j = g ∨ j = b :=
  ⟨⟨List.Pairwise.nil, fun _ h => absurd h (by simp)⟩, fun _ h => absurd h (by simp), by simp [sumL], by simp, fun e => e.elim h1 h2, .inr ⟨rfl, g, b, k, S, hb, hd, hk, rfl⟩⟩
theorem pool_new_no (kd L : Int) (w : World) (h : kindB kd L = false) : Calls Tryz.prog 17 #[.int .i64 kd, .int .i64 L] w fun e w' => e = .returned (.tuple #[.pointer none, .int .i64 2]) ∧ Below w.heap.size w w' := by
  have hb0 := balloc0 w (.cells #[.pointer none, .pointer none] 99)
  by_cases h1 : kd = 1
  · subst h1
    have hL : ¬ (1 ≤ L ∧ L ≤ 16) := fun k => by simp [kindB, k.1, k.2] at h
    have hD := hide (fun W => dense_new_no L W hL)
    clear h hL
    go_enter Tryz.func17, Tryz.ntmps17
    go_wp2_with fail
    refine Calls.mono (hD.out _) ?_
    rintro e w1 ⟨rfl, rfl⟩
    go_wp2_with fail
    go_ret2
    exact ⟨rfl, hb0⟩
  · by_cases h2 : kd = 2
    · subst h2
      have hL : ¬ (1 ≤ L ∧ L ≤ 48) := fun k => by simp [kindB, k.1, k.2] at h
      have hD := hide (fun W => probe_new_no L W hL)
      clear h hL h1
      go_enter Tryz.func17, Tryz.ntmps17
      go_wp2_with fail
      refine Calls.mono (hD.out _) ?_
      rintro e w1 ⟨rfl, rfl⟩
      go_wp2_with fail
      go_ret2
      exact ⟨rfl, hb0⟩
    · clear h
      go_enter Tryz.func17, Tryz.ntmps17
      go_wp2_with fail
      go_ret2
      exact ⟨rfl, hb0⟩
theorem pool_new (kd L : Int) (w : World) (h : kindB kd L = true) : Calls Tryz.prog 17 #[.int .i64 kd, .int .i64 L] w fun e w' =>
    ∃ p F, e = .returned (.tuple #[.pointer (some ⟨p, 0, none⟩), .int .i64 0]) ∧ PoolAt w' p kd L [] F ∧ w.heap.size ≤ p ∧ (∀ j, F j → w.heap.size ≤ j) ∧ Below w.heap.size w w' := by
  have hb0 := hide (balloc0 w (.cells #[.pointer none, .pointer none] 99))
  have hmk := hide (Blk.made w 99 #[.pointer none, .pointer none])
  unfold kindB at h
  by_cases h1 : kd = 1
  · subst h1
    have hL : 1 ≤ L ∧ L ≤ 16 := by simpa using h
    have hD := hide (fun W => dense_new L W hL.1 hL.2)
    clear h hL
    go_enter Tryz.func17, Tryz.ntmps17
    go_wp2_with fail
    refine Calls.mono (hD.out _) ?_
    rintro e w1 ⟨g, b, rfl, hd, hg, hb, hbel⟩
    have hsz := hbel.size
    have hlt0 := hmk.out.lt
    have hblk := hide (hmk.out.kept hbel)
    have hlt := hblk.out.lt
    have fz := hblk.out.free 0
    have hc := hblk.out.cell 0
    have hdh := hide hd
    clear hd
    have hbh := hide (hb0.out.trans (hbel.mono (by simp)))
    clear hbel
    go_wp2_with fail
    go_ret2
    have hne1 : w.heap.size ≠ g := by omega
    have hne2 : w.heap.size ≠ b := by omega
    refine ⟨w.heap.size, _, rfl, PoolAt.at1 (by simpa using hblk.out.set 0 (.pointer (some ⟨g, 0, none⟩))) (hdh.out.turned (Turn.setCell _ (fun j => j = w.heap.size) _ _ rfl) (Ne.symm hne1) (Ne.symm hne2)) hne1 hne2, Nat.le_refl _, ?_, hbh.out.setCell (Nat.le_refl _) _⟩
    rintro j (rfl | rfl) <;> omega
  · have h2 : kd = 2 := by
      rcases Bool.or_eq_true_iff.1 h with k | k
      · simp [h1] at k
      · simp at k; exact k.1
    subst h2
    have hL : 1 ≤ L ∧ L ≤ 48 := by simpa using h
    have hD := hide (fun W => probe_new L W hL.1 hL.2)
    clear h hL h1
    go_enter Tryz.func17, Tryz.ntmps17
    go_wp2_with fail
    refine Calls.mono (hD.out _) ?_
    rintro e w1 ⟨g, b, rfl, hd, hg, hb, hbel⟩
    have hsz := hbel.size
    have hlt0 := hmk.out.lt
    have hblk := hide (hmk.out.kept hbel)
    have hlt := hblk.out.lt
    have fz := hblk.out.free 1
    have hc := hblk.out.cell 1
    have hdh := hide hd
    clear hd
    have hbh := hide (hb0.out.trans (hbel.mono (by simp)))
    clear hbel
    go_wp2_with fail
    go_ret2
    have hne1 : w.heap.size ≠ g := by omega
    have hne2 : w.heap.size ≠ b := by omega
    refine ⟨w.heap.size, _, rfl, PoolAt.at2 (by simpa using hblk.out.set 1 (.pointer (some ⟨g, 0, none⟩))) (hdh.out.turned (Turn.setCell _ (fun j => j = w.heap.size) _ _ rfl) (Ne.symm hne1) (Ne.symm hne2)) (by omega) hne1 hne2, Nat.le_refl _, ?_, hbh.out.setCell (Nat.le_refl _) _⟩
    rintro j (rfl | rfl) <;> omega
end Go.Proofs.YtfjgpjgphdiliaaGreat
/- The walks of layer 9, on: what is put there, and Load. By the prover of this repo. -/
namespace Go.Proofs.YtfjgpjgphdiliaaGreat
open Go.RowKit
open TwigM RollM StoM

theorem right_facts (L : Int) : ∀ (l : List Nd) (last : Int), rightGo L last l = true → (l.Pairwise fun x y => x.1 < y.1) ∧ ∀ p ∈ l, last < p.1 ∧ rightB L p.1 = true ∧ 0 < p.2
  | [], last, _ => ⟨List.Pairwise.nil, fun p hp => by cases hp⟩
  | p :: l, last, h => by
    rw [rightGo] at h
    split at h
    · cases h
    · rename_i hn
      obtain ⟨h1, h2⟩ := right_facts L l p.1 h
      have hp1 : last < p.1 := by omega
      have hp2 : rightB L p.1 = true := by
        rcases Bool.eq_false_or_eq_true (rightB L p.1) with e | e
        · exact e
        · exact absurd (.inr (.inl e)) hn
      have hp3 : 0 < p.2 := by omega
      refine ⟨List.pairwise_cons.2 ⟨fun q hq => (h2 q hq).1, h1⟩, fun q hq => ?_⟩
      rcases List.mem_cons.1 hq with rfl | hq
      · exact ⟨hp1, hp2, hp3⟩
      · have := h2 q hq
        exact ⟨by omega, this.2⟩
theorem tot_facts : ∀ (l : List Nd) (n : Int), n ≤ 72057594037927935 → (totGo n l).2 = true → n + sumL l ≤ 72057594037927935
  | [], n, h, _ => by simpa [sumL] using h
  | p :: l, n, h, ht => by
    by_cases hb : p.2 < 0 ∨ 72057594037927935 - n < p.2
    · rw [tot_bad hb] at ht; cases ht
    · rw [tot_on hb] at ht
      have := tot_facts l (n + p.2) (by omega) ht
      rw [show sumL (p :: l) = p.2 + sumL l from rfl]
      omega
theorem roll_facts {L : Int} {l : List Nd} (h : rollB L l = true) : Canon l ∧ InU L l ∧ sumL l ≤ 72057594037927935 ∧ 1 ≤ L ∧ L ≤ 48 := by
  unfold rollB at h
  obtain ⟨h1, h2⟩ := Bool.and_eq_true_iff.1 h
  obtain ⟨h2, h3⟩ := Bool.and_eq_true_iff.1 h2
  obtain ⟨h4, h5⟩ := right_facts L l 0 h1
  have h6 := tot_facts l 0 (by omega) h2
  have h7 : 1 ≤ L ∧ L ≤ 48 := of_decide_eq_true h3
  exact ⟨⟨h4, fun p hp => (h5 p hp).2.2⟩, fun p hp => by have := right_iff.1 (h5 p hp).2.1; omega, by omega, h7.1, h7.2⟩
theorem put_last (x c : Int) : ∀ (l : List Nd), (∀ p ∈ l, p.1 < x) → put x c l = l ++ [(x, c)]
  | [], _ => rfl
  | p :: l, h => by
    have h1 := h p (by simp)
    have ih := put_last x c l fun q hq => h q (by simp [hq])
    show BagM.put x c (p :: l) = _
    rw [BagM.put, if_neg (by omega), if_neg (by omega), List.cons_append]
    exact congrArg _ ih
theorem addS_take {r : List Nd} (h : Canon r) (i : Nat) (hi : i < r.length) : addS r[i].1 r[i].2 (r.take i) = r.take (i + 1) := by
  have hp := h.cnt r[i] (List.getElem_mem hi)
  unfold addS
  rw [if_neg (by omega), put_last, List.take_succ_eq_append_getElem hi]
  intro p hm
  obtain ⟨j, hj, rfl⟩ := List.mem_iff_getElem.1 hm
  rw [List.length_take] at hj
  rw [List.getElem_take]
  exact List.pairwise_iff_getElem.1 h.rise j i (by omega) hi (by omega)
theorem canon_take {r : List Nd} (h : Canon r) (i : Nat) : Canon (r.take i) := ⟨h.rise.sublist (List.take_sublist i r), fun p hp => h.cnt p (List.mem_of_mem_take hp)⟩
theorem sum_take {r : List Nd} (h : Canon r) (i : Nat) : sumL (r.take i) ≤ sumL r := by
  have e : sumL (r.take i ++ r.drop i) = sumL (r.take i) + sumL (r.drop i) := sumL_append _ _
  rw [List.take_append_drop] at e
  have := sumL_nonneg (r.drop i) fun p hp => Int.le_of_lt (h.cnt p (List.mem_of_mem_drop hp))
  omega
set_option maxHeartbeats 1000000 in
theorem pool_put (p : Nat) (kd L : Int) (A : Option Addr) (c : Nat) (r : List Nd) (F : Nat → Prop) (w0 w : World) (h : PoolAt w p kd L [] F) (hb : Below w0.heap.size w0 w) (hr : Rd w0 A r.length 2 (ndc r)) (hp : w0.heap.size ≤ p) (hF : ∀ j, F j → w0.heap.size ≤ j)
    (hcn : Canon r) (hu : InU L r) (hs : sumL r ≤ 72057594037927935) (hl : r.length ≤ 1000000) (hL : L ≤ 48) :
    Calls Tryz.prog 124 #[.pointer (some ⟨p, 0, none⟩), .slice A r.length c] w fun e w' => (∃ v, e = .returned v) ∧ ∃ F', PoolAt w' p kd L r F' ∧ (∀ j, F' j → w0.heap.size ≤ j) ∧ Below w0.heap.size w0 w' := by
  have hrd := hide (fun (W : World) (hW : Below w0.heap.size w0 W) => hr.kept hW)
  have hst : ∃ F', PoolAt w p kd L (r.take 0) F' ∧ (∀ j, F' j → w0.heap.size ≤ j) := ⟨F, by rw [List.take_zero]; exact h, hF⟩
  replace hst := hide hst
  clear h hF hr
  obtain ⟨n, hn⟩ : ∃ n, Hid (r.length = n) := ⟨_, rfl⟩
  rw [hn.out] at hl
  have hadd := hide (fun i hi => addS_take hcn i hi)
  have hsum := hide (fun i => sum_take hcn i)
  have hcnt := hide hcn.cnt
  have huh := hide hu
  rw [hn.out]
  clear hcn hu
  have hL48 := pw_le48 hL
  generalize w = w1 at *
  go_enter Tryz.func124, Tryz.ntmps124
  go_wp2_with fail
  go_loopw [8] (fun k wr => ∃ (i : Nat), i ≤ n ∧ k = .int .i64 i ∧ Hid (∃ F', PoolAt wr p kd L (r.take i) F' ∧ (∀ j, F' j → w0.heap.size ≤ j)) ∧ Below w0.heap.size w0 wr) (fun k _ => n - (intOf k).toNat)
  case atStart => exact ⟨0, by omega, rfl, hst, hb⟩
  case round =>
    obtain ⟨i, hi, rfl, hst2, hbel⟩ := hrel
    clear hst hb
    by_cases hlt : i < n
    · have hil : i < r.length := by rw [hn.out]; exact hlt
      obtain ⟨b, off, rfl, hb, c0, c1⟩ := rd_at (hrd.out _ hbel) hil
      have ha := hadd.out i hil
      have hcp := hcnt.out _ (List.getElem_mem hil)
      have hur := huh.out _ (List.getElem_mem hil)
      have hsm := sumL_addS r[i].1 r[i].2 (r.take i)
      rw [ha] at hsm
      have hs1 := hsum.out (i + 1)
      obtain ⟨F1, hp1, hF1⟩ := hst2.out
      have hal := fun (V : World) (hV : Below wr.heap.size wr V) => pool_add p kd L r[i].1 r[i].2 (r.take i) F1 V (hp1.kept hV) hur.1 hur.2 (by omega) (by omega) (by rw [ha, List.length_take]; omega)
      rw [ha] at hal
      replace hal := hide hal
      clear hst2 hadd hsm ha hs1
      have hp1 := hide hp1
      generalize r[i] = q at *
      obtain ⟨x, y⟩ := q
      simp only at c0 c1 hal hur hcp
      go_wp2_with (go_at_call 41; refine (hal.out _ (balloc0 _ _)).mono ?_; rintro e w2 ⟨rfl, F2, hp2, ht2, hF2⟩; have hp2 := hide hp2; have hF2 := hide hF2; have ht2 := hide ht2)
      have hsz := hbel.size
      have hsa : wr.heap.size ≤ (wr.alloc (.cells #[.int .i64 x, .int .i64 y] 76)).heap.size := by simp
      go_roundw
      case rel =>
        refine ⟨i + 1, by omega, by go_num, ⟨F2, hp2.out, fun j hj => ?_⟩, (balloc0 wr _ |>.mono (by omega) |> fun hh => hbel.trans hh).trans (ht2.out.below _ (by omega) fun j hj hf => absurd (hF1 j hf) (by omega))⟩
        rcases hF2.out j hj with e | e
        · exact hF1 j e
        · omega
      case measure => simp [intOf]; omega
    · obtain rfl : i = n := by omega
      go_wp2_with fail
      go_end0
      obtain ⟨F2, hp2, hF2⟩ := hst2.out
      refine ⟨⟨_, rfl⟩, F2, ?_, hF2, hbel⟩
      rwa [← hn.out, List.take_length] at hp2
/-- What Load answers. -/
theorem pool_load_no (kd L : Int) (A : Option Addr) (c : Nat) (r : List Nd) (w : World) (hr : Rd w A r.length 2 (ndc r)) (hl : r.length ≤ 1000000) (hwf : NdWf r) (h : ¬ (kindB kd L = true ∧ rollB L r = true)) :
    Calls Tryz.prog 94 #[.int .i64 kd, .int .i64 L, .slice A r.length c] w fun e w' => (∃ z : Int, z ≠ 0 ∧ e = .returned (.tuple #[.pointer none, .int .i64 z])) ∧ Below w.heap.size w w' := by
  by_cases hk : kindB kd L = true
  · have hb : rollB L r = false := by
      rcases Bool.eq_false_or_eq_true (rollB L r) with e | e
      · exact absurd ⟨hk, e⟩ h
      · exact e
    have hN := hide (pool_new kd L w hk)
    have hR := hide (fun (W : World) (hW : Below w.heap.size w W) => roll_right L A c r W (hr.kept hW) hl hwf)
    rw [hb] at hR
    clear h hr hwf hk hb
    go_enter Tryz.func94, Tryz.ntmps94
    go_wp2_with fail
    refine Calls.mono hN.out ?_
    rintro e w1 ⟨p, F, rfl, hp, hpw, hF, hbel⟩
    have hR1 := hide (hR.out w1 hbel)
    have hbh := hide hbel
    clear hp hF hbel
    go_wp2_with fail
    refine Calls.mono hR1.out ?_
    rintro e w2 ⟨rfl, hb2⟩
    have hb2h := hide hb2
    have hsz := hbh.out.size
    clear hb2
    go_wp2_with fail
    go_ret2
    exact ⟨⟨10, by omega, rfl⟩, hbh.out.trans (hb2h.out.mono hsz)⟩
  · have hN := hide (pool_new_no kd L w (by simpa using hk))
    clear h hr hwf hk
    go_enter Tryz.func94, Tryz.ntmps94
    go_wp2_with fail
    refine Calls.mono hN.out ?_
    rintro e w1 ⟨rfl, hb2⟩
    have hbh := hide hb2
    clear hb2
    go_wp2_with fail
    go_ret2
    exact ⟨⟨2, by omega, rfl⟩, hbh.out⟩
set_option maxHeartbeats 1000000 in
theorem pool_load (kd L : Int) (A : Option Addr) (c : Nat) (r : List Nd) (w : World) (hr : Rd w A r.length 2 (ndc r)) (hl : r.length ≤ 1000000) (hwf : NdWf r) (hk : kindB kd L = true) (hb : rollB L r = true) :
    Calls Tryz.prog 94 #[.int .i64 kd, .int .i64 L, .slice A r.length c] w fun e w' => ∃ p F, e = .returned (.tuple #[.pointer (some ⟨p, 0, none⟩), .int .i64 0]) ∧ PoolAt w' p kd L r F ∧ w.heap.size ≤ p ∧ (∀ j, F j → w.heap.size ≤ j) ∧ Below w.heap.size w w' := by
  have hN := hide (pool_new kd L w hk)
  have hR := hide (fun (W : World) (hW : Below w.heap.size w W) => roll_right L A c r W (hr.kept hW) hl hwf)
  rw [hb] at hR
  obtain ⟨hcn, hu, hs, hL1, hL2⟩ := roll_facts hb
  have hP := hide (fun (p : Nat) (F : Nat → Prop) (W : World) (h : PoolAt W p kd L [] F) (hbb : Below w.heap.size w W) (hp : w.heap.size ≤ p) (hF : ∀ j, F j → w.heap.size ≤ j) => pool_put p kd L A c r F w W h hbb hr hp hF hcn hu hs hl hL2)
  clear hr hwf hk hb hcn hu hs
  go_enter Tryz.func94, Tryz.ntmps94
  go_wp2_with fail
  refine Calls.mono hN.out ?_
  rintro e w1 ⟨p, F, rfl, hp, hpw, hF, hbel⟩
  have hR1 := hide (hR.out w1 hbel)
  have hph := hide hp
  have hFh := hide hF
  have hbh := hide hbel
  clear hp hF hbel
  go_wp2_with fail
  refine Calls.mono hR1.out ?_
  rintro e w2 ⟨rfl, hb2⟩
  have hsz := hbh.out.size
  have hph2 := hide (hph.out.kept hb2)
  have hbh2 := hide (hbh.out.trans (hb2.mono hsz))
  clear hb2
  go_wp2_with fail
  refine Calls.mono (hP.out p F w2 hph2.out hbh2.out hpw hFh.out) ?_
  rintro e w3 ⟨⟨v, rfl⟩, F', hp3, hF3, hb3⟩
  have hp3 := hide hp3
  have hF3 := hide hF3
  have hb3 := hide hb3
  go_wp2_with fail
  go_ret2
  exact ⟨p, F', rfl, hp3.out, hpw, hF3.out, hb3.out⟩
end Go.Proofs.YtfjgpjgphdiliaaGreat

/- Part 18 of the proof: texts joined by this repo's tools/merge.py (DigE DigF RecA RecB RecC RecD RecE RecF BagN). By the prover of this repo. -/
import Derived.Test.YtfjgpjgphdiliaaGreatM17
import Derived.Deep.RegionWith
import Derived.Test.YtfjgpjgphdiliaaGreatM9
import Derived.Test.YtfjgpjgphdiliaaGreatM3
set_option linter.unusedVariables false
set_option linter.unusedSimpArgs false
/- The walks of digest.*, on: Conf, Load. By the prover of this repo. -/
namespace Go.Proofs.YtfjgpjgphdiliaaGreat
open Go.RowKit
open TwigM RollM StoM

def loadB (L K kd : Int) (r : List Nd) : Bool := confB L K kd && (rollB L r && (decide ((r.length : Int) ≤ 8 * K) && lightB L (sumL r / K) r))
set_option maxRecDepth 100000 in
set_option maxHeartbeats 2000000 in
theorem digest_load (L K kd : Int) (A : Option Addr) (c : Nat) (r : List Nd) (w : World) (hr : Rd w A r.length 2 (ndc r)) (hl : r.length ≤ 1000000) (hwf : NdWf r) (h : loadB L K kd r = true) :
    Calls Tryz.prog 59 #[conf L K kd, .slice A r.length c] w fun e w' => ∃ d p F, e = .returned (.tuple #[.pointer (some ⟨d, 0, none⟩), .int .i64 0]) ∧ DigAt w' d p K kd L r F ∧ w.heap.size ≤ d ∧ w.heap.size ≤ p ∧ (∀ j, F j → w.heap.size ≤ j) ∧ Below w.heap.size w w' := by
  unfold loadB at h
  obtain ⟨hc, h⟩ := Bool.and_eq_true_iff.1 h
  obtain ⟨hro, h⟩ := Bool.and_eq_true_iff.1 h
  obtain ⟨hn, hli⟩ := Bool.and_eq_true_iff.1 h
  have hn := of_decide_eq_true hn
  have hc2 := hc
  unfold confB at hc2
  obtain ⟨hk, hK⟩ := Bool.and_eq_true_iff.1 hc2
  have hK2 : 1 ≤ K ∧ K ≤ 1048576 := by simpa using hK
  obtain ⟨h1, h2⟩ := hK2
  have hb0 := balloc0 w (.cells #[.int .i64 L, .int .i64 K, .int .i64 kd] 23)
  have bC := Blk.made w 23 #[.int .i64 L, .int .i64 K, .int .i64 kd]
  have hN := hide (fun W => digest_new L K kd W hc)
  have hR := hide (fun (W : World) (hW : Below w.heap.size w W) => roll_right L A c r W (hr.kept hW) hl hwf)
  rw [hro] at hR
  have hP := hide (fun (W : World) (hW : Below w.heap.size w W) => pool_load kd L A c r W (hr.kept hW) hl hwf hk hro)
  have hLi := hide (fun (p : Nat) (F : Nat → Prop) (W : World) (hW : PoolAt W p kd L r F) => press_light p kd L K r F W hW h1 h2)
  rw [hli] at hLi
  have hbk := hide (fun W (hW : Below (w.alloc (.cells #[.int .i64 L, .int .i64 K, .int .i64 kd] 23)).heap.size (w.alloc (.cells #[.int .i64 L, .int .i64 K, .int .i64 kd] 23)) W) => bC.kept hW)
  clear h hc hro hli hc2 hk hK hr hwf
  unfold conf at hN ⊢
  have cC0 := bC.cell 0
  have cC1 := bC.cell 1
  have cC2 := bC.cell 2
  have hbx := hide hb0
  generalize hW0 : (w.alloc (.cells #[.int .i64 L, .int .i64 K, .int .i64 kd] 23)) = W0 at *
  have hbC := hide bC
  have hs0 : Hid (w.heap.size ≤ W0.heap.size) := hb0.size
  clear bC hb0
  go_enter Tryz.func59, Tryz.ntmps59
  go_wp2_with fail
  refine Calls.mono (hN.out _) ?_
  rintro e w1 ⟨d0, p0, F0, rfl, -, -, -, -, hb1⟩
  have bC1 := hbk.out w1 hb1
  clear cC0 cC1 cC2
  have cC0 := bC1.cell 0
  have cC1 := bC1.cell 1
  have cC2 := bC1.cell 2
  have hz1 := hb1.size
  have hb1 := hide (hbx.out.trans (hb1.mono hs0.out))
  have bC1 := hide bC1
  go_wp2_with fail
  refine Calls.mono (hR.out w1 hb1.out) ?_
  rintro e w2 ⟨rfl, hb2⟩
  clear cC0 cC1 cC2
  have bC2 := bC1.out.kept hb2
  have cC0 := bC2.cell 0
  have cC1 := bC2.cell 1
  have cC2 := bC2.cell 2
  have bC2 := hide bC2
  have hb2 := hide (hb1.out.trans (hb2.mono hb1.out.size))
  go_wp2_with fail
  refine Calls.mono (hP.out w2 hb2.out) ?_
  rintro e w3 ⟨p, F, rfl, hp, hpw, hF, hb3⟩
  clear cC0 cC1 cC2
  have bC3 := bC2.out.kept hb3
  have cC1 := bC3.cell 1
  have hsz2 := hb2.out.size
  have hb3 := hide (hb2.out.trans (hb3.mono hsz2))
  have hpl := hp.lt
  have hp := hide hp
  have hF := hide hF
  have bC3 := hide bC3
  go_wp2_with fail
  refine Calls.mono (hLi.out p F w3 hp.out) ?_
  rintro e w4 ⟨rfl, hb4⟩
  clear cC1
  have cC1 := (bC3.out.kept hb4).cell 1
  have hsz3 := hb4.size
  have hp4 := hide (hp.out.kept hb4)
  have hb4 := hide (hb3.out.trans (hb4.mono hb3.out.size))
  go_wp2_with fail
  go_ret2
  exact ⟨w4.heap.size, p, F, rfl, ⟨Blk.made _ _ _, hp4.out.kept (balloc0 _ _), by omega, fun k => by have := hpl.2 _ k; omega, h1, h2⟩, hb4.out.size, by omega, fun j hj => by have := hF.out j hj; omega, balloc hb4.out _⟩
end Go.Proofs.YtfjgpjgphdiliaaGreat
/- Conf of a digest. By the prover of this repo. -/
namespace Go.Proofs.YtfjgpjgphdiliaaGreat
open Go.RowKit
open TwigM RollM StoM

theorem pool_l_same (p : Nat) (kd L : Int) (l : List Nd) (F : Nat → Prop) (w : World) (h : PoolAt w p kd L l F) :
    Calls Tryz.prog 25 #[.pointer (some ⟨p, 0, none⟩)] w fun e w' => e = .returned (.int .i64 L) ∧ w = w' := by
  rcases h.kind with ⟨rfl, g, b, hb, hd, -⟩ | ⟨rfl, g, b, k, R, hb, hd, hk2, -⟩
  · have c0 := hb.cell 0
    have c1 := hb.cell 1
    have hI := hide (pool_arr p g w c0)
    have hC := hide (dense_l g b L l w hd)
    clear h hb hd
    go_enter Tryz.func25, Tryz.ntmps25
    go_wp2_with fail
    refine Calls.mono hI.out ?_
    rintro e w1 ⟨rfl, rfl⟩
    go_wp2_with fail
    refine Calls.mono hC.out ?_
    rintro e w1 ⟨rfl, rfl⟩
    go_wp2_with fail
    go_ret
    exact ⟨rfl, rfl⟩
  · have c0 := hb.cell 0
    have c1 := hb.cell 1
    have hI := hide (pool_not p w c0)
    have hJ := hide (pool_inner p _ w c1)
    have hC := hide (probe_l g b k R L _ _ w hd.raw)
    clear h hb hd
    go_enter Tryz.func25, Tryz.ntmps25
    go_wp2_with fail
    refine Calls.mono hI.out ?_
    rintro e w1 ⟨rfl, rfl⟩
    go_wp2_with fail
    refine Calls.mono hJ.out ?_
    rintro e w1 ⟨rfl, rfl⟩
    go_wp2_with fail
    refine Calls.mono hC.out ?_
    rintro e w1 ⟨rfl, rfl⟩
    go_wp2_with fail
    go_ret
    exact ⟨rfl, rfl⟩
theorem pool_kind_same (p : Nat) (kd L : Int) (l : List Nd) (F : Nat → Prop) (w : World) (h : PoolAt w p kd L l F) :
    Calls Tryz.prog 26 #[.pointer (some ⟨p, 0, none⟩)] w fun e w' => e = .returned (.int .i64 kd) ∧ w = w' := by
  rcases h.kind with ⟨rfl, g, b, hb, hd, -⟩ | ⟨rfl, g, b, k, R, hb, hd, hk2, -⟩
  · have c0 := hb.cell 0
    have c1 := hb.cell 1
    have hI := hide (pool_arr p g w c0)
    clear h hb hd
    go_enter Tryz.func26, Tryz.ntmps26
    go_wp2_with fail
    refine Calls.mono hI.out ?_
    rintro e w1 ⟨rfl, rfl⟩
    go_wp2_with fail
    go_ret
    exact ⟨rfl, rfl⟩
  · have c0 := hb.cell 0
    have c1 := hb.cell 1
    have hI := hide (pool_not p w c0)
    clear h hb hd
    go_enter Tryz.func26, Tryz.ntmps26
    go_wp2_with fail
    refine Calls.mono hI.out ?_
    rintro e w1 ⟨rfl, rfl⟩
    go_wp2_with fail
    go_ret
    exact ⟨rfl, rfl⟩
set_option maxRecDepth 100000 in
set_option maxHeartbeats 4000000 in
theorem digest_conf (d p : Nat) (K kd L : Int) (l : List Nd) (F : Nat → Prop) (w : World) (h : DigAt w d p K kd L l F) :
    Calls Tryz.prog 8 #[.pointer (some ⟨d, 0, none⟩)] w fun e w' => e = .returned (conf L K kd) ∧ Below w.heap.size w w' := by
  have c0 := h.blk.cell 0
  have c1 := h.blk.cell 1
  have hd := h.lt.1
  have hl := hide (fun W (hW : Below w.heap.size w W) => pool_l_same p kd L l F W (h.pool.kept hW))
  have hk := hide (fun W (hW : Below w.heap.size w W) => pool_kind_same p kd L l F W (h.pool.kept hW))
  clear h
  unfold conf
  go_enter Tryz.func8, Tryz.ntmps8
  go_wp2_with fail
  have hb0 := hide (balloc0 w (.cells #[.int .i64 0, .int .i64 0, .int .i64 0] 23))
  have bC := Blk.made w 23 #[.int .i64 0, .int .i64 0, .int .i64 0]
  have q0 := bC.cell 0
  have q1 := bC.cell 1
  have q2 := bC.cell 2
  have r0 := bC.free 0
  have r1 := bC.free 1
  have r2 := bC.free 2
  have hbC := hide bC
  clear bC
  go_region_with (first
    | (go_at_call 25; (with_reducible refine (hl.out _ ?_).mono ?_); (first | exact hb0.out | exact hb0.out.drew | exact hb0.out.drew.drew); rintro e w1 ⟨rfl, rfl⟩)
    | (go_at_call 26; (with_reducible refine (hk.out _ ?_).mono ?_); (first | exact hb0.out | exact hb0.out.drew | exact hb0.out.drew.drew); rintro e w1 ⟨rfl, rfl⟩))
  all_goals
    have z := Blk.made w 23 #[.int .i64 L, .int .i64 K, .int .i64 kd]
    have z0 := z.cell 0
    have z1 := z.cell 1
    have z2 := z.cell 2
    go_wp2_with fail
    try simp only [Exit.inBlock, Exit.then]
    refine bodyPost_ret (v := .agg #[.int .i64 L, .int .i64 K, .int .i64 kd]) (by simp [results, Tryz.results8, go_sem, z0, z1, z2]) rfl ⟨rfl, (balloc0 w _).drew⟩
end Go.Proofs.YtfjgpjgphdiliaaGreat
/- The walks of recast.*: may, and how a node moves. By the prover of this repo. -/
namespace Go.Proofs.YtfjgpjgphdiliaaGreat
open Go.RowKit
open TwigM RollM StoM

theorem rec_may (L K kd : Int) (w : World) : Calls Tryz.prog 21 #[conf L K kd] w fun e w' => e = .returned (.bool (kindB kd L)) ∧ Below w.heap.size w w' := by
  have hb0 := balloc0 w (.cells #[.int .i64 L, .int .i64 K, .int .i64 kd] 23)
  have hcf : confB L 1 kd = kindB kd L := by unfold confB; simp
  by_cases hk : kindB kd L = true
  · have hN := hide (fun W => digest_new L 1 kd W (by rw [hcf]; exact hk))
    rw [hk]
    clear hk hcf
    unfold conf at hN ⊢
    go_enter Tryz.func21, Tryz.ntmps21
    go_wp2_with fail
    refine Calls.mono (hN.out _) ?_
    rintro e w1 ⟨d, p, F, rfl, -, -, -, -, hb1⟩
    have hb := hide (hb0.trans (hb1.mono (by simp)))
    clear hb1
    go_wp2_with fail
    go_ret
    exact ⟨rfl, hb.out⟩
  · have hk2 : kindB kd L = false := by simpa using hk
    have hN := hide (fun W => digest_new_no L 1 kd W (by rw [hcf]; exact hk2))
    rw [hk2]
    clear hk hk2 hcf
    unfold conf at hN ⊢
    go_enter Tryz.func21, Tryz.ntmps21
    go_wp2_with fail
    refine Calls.mono (hN.out _) ?_
    rintro e w1 ⟨rfl, hb1⟩
    have hb := hide (hb0.trans (hb1.mono (by simp)))
    clear hb1
    go_wp2_with fail
    go_ret
    exact ⟨rfl, hb.out⟩
theorem grow_told (b : Nat) (id n : Int) (w : World) (hb : Blk w b 3 #[.int .i64 n]) (h1 : id ≤ 9223372036854775807) (h2 : n ≤ 9223372036854775807) (h3 : -9223372036854775808 ≤ n) :
    Calls Tryz.prog 23 #[.int .i64 id, .pointer (some ⟨b, 0, none⟩)] w fun e w' => e = .returned (.int .i64 (graftF id n).1) ∧ ∃ m, w' = w.drewN m := by
  have c0 := hb.cell 0
  have hG := hide (fun W => graft_c id n W h1 h2 h3)
  clear hb
  generalize graftF id n = R at *
  obtain ⟨r, o⟩ := R
  go_enter Tryz.func23, Tryz.ntmps23
  go_wp2_with fail
  refine Calls.mono (hG.out _) ?_
  rintro e w1 ⟨rfl, m, rfl⟩
  go_wp2_with fail
  go_ret
  exact ⟨rfl, m, rfl⟩
theorem coarsen_told (b : Nat) (id L K kd : Int) (w : World) (hb : Blk w b 23 #[.int .i64 L, .int .i64 K, .int .i64 kd]) (h1 : id ≤ 9223372036854775807) (h2 : L ≤ 9223372036854775807) :
    Calls Tryz.prog 27 #[.int .i64 id, .pointer (some ⟨b, 0, none⟩)] w fun e w' => e = .returned (.int .i64 (pruneF id L).1) ∧ w = w' := by
  have c0 := hb.cell 0
  have hG := hide (fun W => prune_c id L W h1 h2)
  clear hb
  generalize pruneF id L = R at *
  obtain ⟨r, o⟩ := R
  go_enter Tryz.func27, Tryz.ntmps27
  go_wp2_with fail
  refine Calls.mono (hG.out _) ?_
  rintro e w1 ⟨rfl, rfl⟩
  go_wp2_with fail
  go_ret
  exact ⟨rfl, rfl⟩
end Go.Proofs.YtfjgpjgphdiliaaGreat
/- The walks of recast.*, on: all nodes move (Grow). By the prover of this repo. -/
namespace Go.Proofs.YtfjgpjgphdiliaaGreat
open Go.RowKit
open TwigM RollM StoM

/-- The first nodes moved, the others not yet. -/
def movL (f : Int → Int) (l : List Nd) (i : Nat) : List Nd := (l.take i).map (fun q => (f q.1, q.2)) ++ l.drop i
theorem movL_len (f : Int → Int) (l : List Nd) (i : Nat) : (movL f l i).length = l.length := by
  unfold movL
  rw [List.length_append, List.length_map, List.length_take, List.length_drop]
  omega
theorem movL_all (f : Int → Int) (l : List Nd) : movL f l l.length = l.map fun q => (f q.1, q.2) := by
  unfold movL
  rw [List.take_length, List.drop_length, List.append_nil]
theorem movL_at (f : Int → Int) (l : List Nd) (i : Nat) (hi : i < l.length) : (movL f l i)[i]'(by rw [movL_len]; exact hi) = l[i] := by
  unfold movL
  rw [List.getElem_append_right (by rw [List.length_map, List.length_take]; omega), List.getElem_drop]
  congr 1
  rw [List.length_map, List.length_take]
  omega
theorem movL_next (f : Int → Int) (l : List Nd) (i : Nat) (hi : i < l.length) : (movL f l i).set i (f l[i].1, l[i].2) = movL f l (i + 1) := by
  unfold movL
  rw [List.take_succ_eq_append_getElem hi, List.map_append, List.drop_eq_getElem_cons hi, List.append_assoc]
  rw [List.set_append_right _ _ (by rw [List.length_map, List.length_take]; omega)]
  rw [List.length_map, List.length_take, show i - min i l.length = 0 by omega]
  rfl
theorem ndv_set1 (S : List Nd) (r : Nat) (x : Int) (hr : r < S.length) : (ndv S).set (r * 2) (.int .i64 x) = ndv (S.set r (x, S[r].2)) := by
  apply List.ext_getElem?
  intro j
  rw [List.getElem?_set]
  by_cases hj : j < S.length * 2
  · rw [ndv_get (S.set r (x, S[r].2)) j (by rw [List.length_set]; exact hj), ndv_get S j hj, ndv_length]
    unfold ndc
    rw [getD_set]
    by_cases e1 : r * 2 = j
    · rw [if_pos e1, if_pos (by omega), if_pos (by omega), if_pos ⟨by omega, hr⟩]
    · rw [if_neg e1]
      by_cases e2 : r = j / 2
      · have h2 : ¬ j % 2 = 0 := by omega
        rw [if_neg h2, if_neg h2, if_pos ⟨e2, hr⟩]
        have hd : S.getD (j / 2) (0, 0) = S[r] := by rw [← e2, List.getD_eq_getElem?_getD, List.getElem?_eq_getElem hr]; rfl
        rw [hd]
      · have h3 : ¬ (r = j / 2 ∧ r < S.length) := fun k => e2 k.1
        simp only [if_neg h3]
  · rw [List.getElem?_eq_none (by rw [ndv_length]; omega), List.getElem?_eq_none (by rw [ndv_length, List.length_set]; omega), ndv_length]
    split
    · split <;> first | rfl | omega
    · rfl
theorem mov_store {w : World} {base g cap : Nat} {f : Int → Int} {l : List Nd} {i : Nat} (h : w.ownsRow base 76 2 (.slice (some ⟨g, 0, none⟩) l.length cap) l.length (ndv (movL f l i))) (hi : i < l.length) :
    (w.setCell ⟨g, i * 2, none⟩ (.int .i64 (f l[i].1))).ownsRow base 76 2 (.slice (some ⟨g, 0, none⟩) l.length cap) l.length (ndv (movL f l (i + 1))) := by
  have h2 := (h.stored (i * 2) (.int .i64 (f l[i].1))).1
  have hlt : i < (movL f l i).length := by rw [movL_len]; exact hi
  rw [ndv_set1 (movL f l i) i (f l[i].1) hlt, movL_at f l i hi, movL_next f l i hi] at h2
  exact h2
end Go.Proofs.YtfjgpjgphdiliaaGreat
/- The walk of recast.moved, as Grow calls it. By the prover of this repo. -/
namespace Go.Proofs.YtfjgpjgphdiliaaGreat
open Go.RowKit
open TwigM RollM StoM

set_option maxRecDepth 100000 in
set_option maxHeartbeats 2000000 in
theorem grow_moved (d p b : Nat) (K kd L L' n : Int) (l : List Nd) (F : Nat → Prop) (w : World) (h : DigAt w d p K kd L l F) (hb : Blk w b 3 #[.int .i64 n]) (hn1 : -9223372036854775808 ≤ n) (hn2 : n ≤ 9223372036854775807)
    (hwf : NdWf (l.map fun q => ((graftF q.1 n).1, q.2))) (hwf2 : NdWf (foldF (l.map fun q => ((graftF q.1 n).1, q.2))).1) (hln : (foldF (l.map fun q => ((graftF q.1 n).1, q.2))).1.length ≤ 1000000) (hld : loadB L' K kd (foldF (l.map fun q => ((graftF q.1 n).1, q.2))).1 = true) :
    Calls Tryz.prog 22 #[.pointer (some ⟨d, 0, none⟩), conf L' K kd, .func (.func 23) #[] #[.pointer (some ⟨b, 0, none⟩)]] w fun e w' => ∃ d' p' F', e = .returned (.tuple #[.pointer (some ⟨d', 0, none⟩), .int .i64 0]) ∧ DigAt w' d' p' K kd L' (foldF (l.map fun q => ((graftF q.1 n).1, q.2))).1 F' ∧ w.heap.size ≤ d' ∧ w.heap.size ≤ p' ∧ (∀ j, F' j → w.heap.size ≤ j) ∧ Below w.heap.size w w' := by
  have hN := hide (fun W (hW : Below w.heap.size w W) => digest_nodes d p K kd L l F W (h.kept hW))
  have hTd := hide (fun (id : Int) (W : World) (hW : Below w.heap.size w W) (h1 : id ≤ 9223372036854775807) => grow_told b id n W (hb.kept hW) h1 hn2 hn1)
  have hall := hide h.pool.allU
  have hll := h.pool.len
  clear h hb
  obtain ⟨f, hf⟩ : ∃ f : Int → Int, f = fun id => (graftF id n).1 := ⟨_, rfl⟩
  have hfx : ∀ id, (graftF id n).1 = f id := fun id => by rw [hf]
  simp only [hfx] at hwf hwf2 hln hld hTd ⊢
  clear hf hfx
  have hst := hide (fun (W : World) (g cap i : Nat) (base : Nat) (q : W.ownsRow base 76 2 (.slice (some ⟨g, 0, none⟩) l.length cap) l.length (ndv (movL f l i))) (hi : i < l.length) => mov_store q hi)
  have hma := hide (fun i hi => movL_at f l i hi)
  have hm0 : Hid (movL f l 0 = l) := by show _ = _; unfold movL; simp
  have hml := hide (fun i => movL_len f l i)
  have hmall := hide (movL_all f l)
  have hb0 := balloc0 w (.cells #[.int .i64 L', .int .i64 K, .int .i64 kd] 23)
  have bC := hide (Blk.made w 23 #[.int .i64 L', .int .i64 K, .int .i64 kd])
  unfold conf
  go_enter Tryz.func22, Tryz.ntmps22
  go_wp2_with fail
  refine Calls.mono (hN.out _ hb0) ?_
  rintro e w1 ⟨v, rfl, hv, hb1⟩
  obtain ⟨m, hm⟩ : ∃ m, Hid (l.length = m) := ⟨_, rfl⟩
  rw [hm.out] at hv hll
  obtain ⟨A, c, rfl, hA1, hA2, hA3⟩ := own_form hv
  have hz0 : (w.alloc (.cells #[.int .i64 L', .int .i64 K, .int .i64 kd] 23)).heap.size = w.heap.size + 1 := by simp
  rw [hz0] at hv
  have hv0 : Hid (w1.ownsRow (w.heap.size + 1) 76 2 (.slice A m c) m (ndv (movL f l 0))) := by
    have := hv
    rw [← hm0.out] at this
    exact this
  have bC1 := hide (bC.out.kept hb1)
  have hb1 := hide (hb0.trans (hb1.mono (by rw [hz0]; omega)))
  clear hv hb0
  go_wp2_with fail
  go_loopw [14] (fun kv wr => ∃ (i : Nat), kv = .int .i64 i ∧ i ≤ m ∧ Hid (wr.ownsRow (w.heap.size + 1) 76 2 (.slice A m c) m (ndv (movL f l i))) ∧ Hid (Blk wr w.heap.size 23 #[.int .i64 L', .int .i64 K, .int .i64 kd]) ∧ Hid (Below w.heap.size w wr)) (fun kv _ => m - (intOf kv).toNat)
  case atStart => exact ⟨0, rfl, by omega, hv0, bC1, hb1⟩
  case round =>
    obtain ⟨i, rfl, hi, hrow, hbC, hbel⟩ := hrel
    clear hv0 bC1 hb1
    by_cases hlt : i < m
    · have hil : i < l.length := by rw [hm.out]; exact hlt
      have hiM : i < (movL f l i).length := by rw [hml.out]; exact hil
      have hro := hrow.out
      rw [show m = (movL f l i).length from ((hml.out i).trans hm.out).symm] at hro
      obtain ⟨g, cap, e1, hg, cx, cn⟩ := nd_at hro hiM
      injection e1 with e1 e2 e3
      subst e1 e3
      rw [hma.out i hil] at cx cn
      have hfz := hrow.out.frozenAt (i * 2)
      have hgb := (hrow.out.lt g rfl).1
      have hid := (hall.out _ (List.getElem_mem hil)).2.1
      have hnew : Hid ((wr.setCell ⟨g, i * 2, none⟩ (.int .i64 (f l[i].1))).ownsRow (w.heap.size + 1) 76 2 (.slice (some ⟨g, 0, none⟩) m c) m (ndv (movL f l (i + 1)))) := by
        have q := hrow.out
        rw [← hm.out] at q
        have := hst.out wr g c i _ q hil
        rw [hm.out] at this
        exact this
      have hT1 := hide (hTd.out l[i].1 wr hbel.out (by omega))
      clear hro
      generalize f l[i].1 = y at *
      generalize l[i] = q at *
      obtain ⟨x, cnt⟩ := q
      simp only at cx cn hT1 hid
      go_wp2_with (go_at_call 23; refine hT1.out.mono ?_; rintro e w5 ⟨rfl, k, rfl⟩)
      go_roundw
      case rel => exact ⟨i + 1, by go_num, by omega, hnew.out, (hbC.out.off (p := ⟨g, i * 2, none⟩) (by show w.heap.size ≠ g; omega) _), Below.setCell (p := ⟨g, i * 2, none⟩) (⟨hbel.out.os, hbel.out.tape, hbel.out.output, hbel.out.size, hbel.out.block⟩ : Below w.heap.size w (wr.drewN k)) (by show _ ≤ g; omega) _⟩
      case measure => simp [intOf]; omega
    · obtain rfl : i = m := by omega
      obtain ⟨M, hM⟩ : ∃ M, (l.map fun q => (f q.1, q.2)) = M := ⟨_, rfl⟩
      have hMl : M.length = i := by rw [← hM, List.length_map]; exact hm.out
      have hrow2 : wr.ownsRow (w.heap.size + 1) 76 2 (.slice A i c) i (ndv M) := by
        have := hrow.out
        rw [show i = l.length from hm.out.symm, hmall.out, hM] at this
        rw [show i = l.length from hm.out.symm]
        exact this
      rw [hM] at hwf hwf2 hln hld
      have hrd : Rd wr A M.length 2 (ndc M) := by
        rw [hMl]
        refine (own_rd hrow2).congr fun j hj => ?_
        rw [List.getD_eq_getElem?_getD, ndv_get M j (by omega)]; rfl
      have hFo := hide (roll_fold A c M wr hrd (by rw [hMl]; exact hA1) (by rw [hMl]; exact hA2) hA3 (by omega) hwf)
      rw [hMl] at hFo
      have hLd := hide (fun (A2 : Option Addr) (c2 : Nat) (W : World) (q : Rd W A2 (foldF M).1.length 2 (ndc (foldF M).1)) => digest_load L' K kd A2 c2 (foldF M).1 W q hln hwf2 hld)
      have hfM := hide hM
      have hlt3 : ¬ ((i : Int) < (i : Int)) := by omega
      clear hrow hrow2 hrd hM hwf hwf2 hld hMl
      go_wp2_with fail
      refine Calls.mono hFo.out ?_
      rintro e w2 ⟨v2, rfl, hv2, hb2⟩
      have cB := (hbC.out.kept hb2)
      have k0 := cB.cell 0
      have k1 := cB.cell 1
      have k2 := cB.cell 2
      have hb2 := hide (hbel.out.trans (hb2.mono hbel.out.size))
      obtain ⟨A2, c2, rfl, -, -, -, hr2⟩ := hv2
      have hLd2 := hide (hLd.out A2 c2 w2 hr2)
      clear hr2 cB
      unfold conf at hLd2
      go_wp2_with fail
      refine Calls.mono hLd2.out ?_
      rintro e w3 ⟨d', p', F', rfl, h1, h2, h3, h4, hb3⟩
      have hbs := hb2.out.size
      have h1 := hide h1
      have h4 := hide h4
      have hb3 := hide (hb2.out.trans (hb3.mono hbs))
      go_wp2_with fail
      go_ret2
      exact ⟨d', p', F', rfl, by rw [hfM.out]; exact h1.out, by omega, by omega, fun j hj => Nat.le_trans hbs (h4.out j hj), hb3.out⟩
end Go.Proofs.YtfjgpjgphdiliaaGreat
/- The walk of recast.moved, as Coarsen calls it. By the prover of this repo. -/
namespace Go.Proofs.YtfjgpjgphdiliaaGreat
open Go.RowKit
open TwigM RollM StoM

set_option maxRecDepth 100000 in
set_option maxHeartbeats 2000000 in
theorem coarsen_moved (d p b : Nat) (K kd L L' n K2 kd2 : Int) (l : List Nd) (F : Nat → Prop) (w : World) (h : DigAt w d p K kd L l F) (hb : Blk w b 23 #[.int .i64 n, .int .i64 K2, .int .i64 kd2]) (hn2 : n ≤ 9223372036854775807)
    (hwf : NdWf (l.map fun q => ((pruneF q.1 n).1, q.2))) (hwf2 : NdWf (foldF (l.map fun q => ((pruneF q.1 n).1, q.2))).1) (hln : (foldF (l.map fun q => ((pruneF q.1 n).1, q.2))).1.length ≤ 1000000) (hld : loadB L' K kd (foldF (l.map fun q => ((pruneF q.1 n).1, q.2))).1 = true) :
    Calls Tryz.prog 22 #[.pointer (some ⟨d, 0, none⟩), conf L' K kd, .func (.func 27) #[] #[.pointer (some ⟨b, 0, none⟩)]] w fun e w' => ∃ d' p' F', e = .returned (.tuple #[.pointer (some ⟨d', 0, none⟩), .int .i64 0]) ∧ DigAt w' d' p' K kd L' (foldF (l.map fun q => ((pruneF q.1 n).1, q.2))).1 F' ∧ w.heap.size ≤ d' ∧ w.heap.size ≤ p' ∧ (∀ j, F' j → w.heap.size ≤ j) ∧ Below w.heap.size w w' := by
  have hN := hide (fun W (hW : Below w.heap.size w W) => digest_nodes d p K kd L l F W (h.kept hW))
  have hTd := hide (fun (id : Int) (W : World) (hW : Below w.heap.size w W) (h1 : id ≤ 9223372036854775807) => coarsen_told b id n K2 kd2 W (hb.kept hW) h1 hn2)
  have hall := hide h.pool.allU
  have hll := h.pool.len
  clear h hb
  obtain ⟨f, hf⟩ : ∃ f : Int → Int, f = fun id => (pruneF id n).1 := ⟨_, rfl⟩
  have hfx : ∀ id, (pruneF id n).1 = f id := fun id => by rw [hf]
  simp only [hfx] at hwf hwf2 hln hld hTd ⊢
  clear hf hfx
  have hst := hide (fun (W : World) (g cap i : Nat) (base : Nat) (q : W.ownsRow base 76 2 (.slice (some ⟨g, 0, none⟩) l.length cap) l.length (ndv (movL f l i))) (hi : i < l.length) => mov_store q hi)
  have hma := hide (fun i hi => movL_at f l i hi)
  have hm0 : Hid (movL f l 0 = l) := by show _ = _; unfold movL; simp
  have hml := hide (fun i => movL_len f l i)
  have hmall := hide (movL_all f l)
  have hb0 := balloc0 w (.cells #[.int .i64 L', .int .i64 K, .int .i64 kd] 23)
  have bC := hide (Blk.made w 23 #[.int .i64 L', .int .i64 K, .int .i64 kd])
  unfold conf
  go_enter Tryz.func22, Tryz.ntmps22
  go_wp2_with fail
  refine Calls.mono (hN.out _ hb0) ?_
  rintro e w1 ⟨v, rfl, hv, hb1⟩
  obtain ⟨m, hm⟩ : ∃ m, Hid (l.length = m) := ⟨_, rfl⟩
  rw [hm.out] at hv hll
  obtain ⟨A, c, rfl, hA1, hA2, hA3⟩ := own_form hv
  have hz0 : (w.alloc (.cells #[.int .i64 L', .int .i64 K, .int .i64 kd] 23)).heap.size = w.heap.size + 1 := by simp
  rw [hz0] at hv
  have hv0 : Hid (w1.ownsRow (w.heap.size + 1) 76 2 (.slice A m c) m (ndv (movL f l 0))) := by
    have := hv
    rw [← hm0.out] at this
    exact this
  have bC1 := hide (bC.out.kept hb1)
  have hb1 := hide (hb0.trans (hb1.mono (by rw [hz0]; omega)))
  clear hv hb0
  go_wp2_with fail
  go_loopw [14] (fun kv wr => ∃ (i : Nat), kv = .int .i64 i ∧ i ≤ m ∧ Hid (wr.ownsRow (w.heap.size + 1) 76 2 (.slice A m c) m (ndv (movL f l i))) ∧ Hid (Blk wr w.heap.size 23 #[.int .i64 L', .int .i64 K, .int .i64 kd]) ∧ Hid (Below w.heap.size w wr)) (fun kv _ => m - (intOf kv).toNat)
  case atStart => exact ⟨0, rfl, by omega, hv0, bC1, hb1⟩
  case round =>
    obtain ⟨i, rfl, hi, hrow, hbC, hbel⟩ := hrel
    clear hv0 bC1 hb1
    by_cases hlt : i < m
    · have hil : i < l.length := by rw [hm.out]; exact hlt
      have hiM : i < (movL f l i).length := by rw [hml.out]; exact hil
      have hro := hrow.out
      rw [show m = (movL f l i).length from ((hml.out i).trans hm.out).symm] at hro
      obtain ⟨g, cap, e1, hg, cx, cn⟩ := nd_at hro hiM
      injection e1 with e1 e2 e3
      subst e1 e3
      rw [hma.out i hil] at cx cn
      have hfz := hrow.out.frozenAt (i * 2)
      have hgb := (hrow.out.lt g rfl).1
      have hid := (hall.out _ (List.getElem_mem hil)).2.1
      have hnew : Hid ((wr.setCell ⟨g, i * 2, none⟩ (.int .i64 (f l[i].1))).ownsRow (w.heap.size + 1) 76 2 (.slice (some ⟨g, 0, none⟩) m c) m (ndv (movL f l (i + 1)))) := by
        have q := hrow.out
        rw [← hm.out] at q
        have := hst.out wr g c i _ q hil
        rw [hm.out] at this
        exact this
      have hT1 := hide (hTd.out l[i].1 wr hbel.out (by omega))
      clear hro
      generalize f l[i].1 = y at *
      generalize l[i] = q at *
      obtain ⟨x, cnt⟩ := q
      simp only at cx cn hT1 hid
      go_wp2_with (go_at_call 27; refine hT1.out.mono ?_; rintro e w5 ⟨rfl, rfl⟩)
      go_roundw
      case rel => exact ⟨i + 1, by go_num, by omega, hnew.out, (hbC.out.off (p := ⟨g, i * 2, none⟩) (by show w.heap.size ≠ g; omega) _), Below.setCell (p := ⟨g, i * 2, none⟩) hbel.out (by show _ ≤ g; omega) _⟩
      case measure => simp [intOf]; omega
    · obtain rfl : i = m := by omega
      obtain ⟨M, hM⟩ : ∃ M, (l.map fun q => (f q.1, q.2)) = M := ⟨_, rfl⟩
      have hMl : M.length = i := by rw [← hM, List.length_map]; exact hm.out
      have hrow2 : wr.ownsRow (w.heap.size + 1) 76 2 (.slice A i c) i (ndv M) := by
        have := hrow.out
        rw [show i = l.length from hm.out.symm, hmall.out, hM] at this
        rw [show i = l.length from hm.out.symm]
        exact this
      rw [hM] at hwf hwf2 hln hld
      have hrd : Rd wr A M.length 2 (ndc M) := by
        rw [hMl]
        refine (own_rd hrow2).congr fun j hj => ?_
        rw [List.getD_eq_getElem?_getD, ndv_get M j (by omega)]; rfl
      have hFo := hide (roll_fold A c M wr hrd (by rw [hMl]; exact hA1) (by rw [hMl]; exact hA2) hA3 (by omega) hwf)
      rw [hMl] at hFo
      have hLd := hide (fun (A2 : Option Addr) (c2 : Nat) (W : World) (q : Rd W A2 (foldF M).1.length 2 (ndc (foldF M).1)) => digest_load L' K kd A2 c2 (foldF M).1 W q hln hwf2 hld)
      have hfM := hide hM
      have hlt3 : ¬ ((i : Int) < (i : Int)) := by omega
      clear hrow hrow2 hrd hM hwf hwf2 hld hMl
      go_wp2_with fail
      refine Calls.mono hFo.out ?_
      rintro e w2 ⟨v2, rfl, hv2, hb2⟩
      have cB := (hbC.out.kept hb2)
      have k0 := cB.cell 0
      have k1 := cB.cell 1
      have k2 := cB.cell 2
      have hb2 := hide (hbel.out.trans (hb2.mono hbel.out.size))
      obtain ⟨A2, c2, rfl, -, -, -, hr2⟩ := hv2
      have hLd2 := hide (hLd.out A2 c2 w2 hr2)
      clear hr2 cB
      unfold conf at hLd2
      go_wp2_with fail
      refine Calls.mono hLd2.out ?_
      rintro e w3 ⟨d', p', F', rfl, h1, h2, h3, h4, hb3⟩
      have hbs := hb2.out.size
      have h1 := hide h1
      have h4 := hide h4
      have hb3 := hide (hb2.out.trans (hb3.mono hbs))
      go_wp2_with fail
      go_ret2
      exact ⟨d', p', F', rfl, by rw [hfM.out]; exact h1.out, by omega, by omega, fun j hj => Nat.le_trans hbs (h4.out j hj), hb3.out⟩
end Go.Proofs.YtfjgpjgphdiliaaGreat
/- Grow: a digest of a greater universe. By the prover of this repo. -/
namespace Go.Proofs.YtfjgpjgphdiliaaGreat
open Go.RowKit
open TwigM RollM StoM

def growL (n : Int) (l : List Nd) : List Nd := (foldF (l.map fun q => ((graftF q.1 n).1, q.2))).1
set_option maxRecDepth 100000 in
set_option maxHeartbeats 1000000 in
theorem rec_grow (d p : Nat) (K kd L L' : Int) (l : List Nd) (F : Nat → Prop) (w : World) (h : DigAt w d p K kd L l F) (h1 : L ≤ L') (h2 : L' ≤ 48) (hk : kindB kd L' = true)
    (hwf : NdWf (l.map fun q => ((graftF q.1 (L' - L)).1, q.2))) (hwf2 : NdWf (growL (L' - L) l)) (hln : (growL (L' - L) l).length ≤ 1000000) (hld : loadB L' K kd (growL (L' - L) l) = true) :
    Calls Tryz.prog 7 #[.pointer (some ⟨d, 0, none⟩), .int .i64 L'] w fun e w' => ∃ d' p' F', e = .returned (.tuple #[.pointer (some ⟨d', 0, none⟩), .int .i64 0]) ∧ DigAt w' d' p' K kd L' (growL (L' - L) l) F' ∧ w.heap.size ≤ d' ∧ w.heap.size ≤ p' ∧ (∀ j, F' j → w.heap.size ≤ j) ∧ Below w.heap.size w w' := by
  have hL := h.pool.uni
  have hC := hide (digest_conf d p K kd L l F w h)
  have hkp := hide (fun W (hW : Below w.heap.size w W) => h.kept hW)
  have hM := hide (fun W => rec_may L' K kd W)
  rw [hk] at hM
  have hMv := hide (fun (b : Nat) (W : World) (q : DigAt W d p K kd L l F) (hb : Blk W b 3 #[.int .i64 (L' - L)]) => grow_moved d p b K kd L L' (L' - L) l F W q hb (by omega) (by omega) hwf hwf2 hln hld)
  clear h hwf hwf2 hln hld hk
  unfold growL
  generalize (foldF (l.map fun q => ((graftF q.1 (L' - L)).1, q.2))).1 = G at *
  unfold conf at hC hM hMv
  go_enter Tryz.func7, Tryz.ntmps7
  go_wp2_with fail
  refine Calls.mono hC.out ?_
  rintro e w1 ⟨rfl, hb1⟩
  have hb1 := hide hb1
  go_wp2_with fail
  have bC : Blk ((w1.alloc (.cells #[.int .i64 L', .int .i64 K, .int .i64 kd] 23)).alloc (.cells #[.int .i64 (L' - L)] 3)) w1.heap.size 23 #[.int .i64 L', .int .i64 K, .int .i64 kd] := (Blk.made w1 _ _).alloc _
  have bB : Blk ((w1.alloc (.cells #[.int .i64 L', .int .i64 K, .int .i64 kd] 23)).alloc (.cells #[.int .i64 (L' - L)] 3)) (w1.heap.size + 1) 3 #[.int .i64 (L' - L)] := Blk.made_at _ _ _ (by simp)
  have hbs := hb1.out.size
  have hb2 := hide (hb1.out.trans ((balloc (balloc0 w1 (.cells #[.int .i64 L', .int .i64 K, .int .i64 kd] 23)) (.cells #[.int .i64 (L' - L)] 3)).mono hbs))
  generalize ((w1.alloc (.cells #[.int .i64 L', .int .i64 K, .int .i64 kd] 23)).alloc (.cells #[.int .i64 (L' - L)] 3)) = W2 at *
  refine Calls.mono (hM.out _) ?_
  rintro e w3 ⟨rfl, hb3⟩
  have bC3 := bC.kept hb3
  have k0 := bC3.cell 0
  have k1 := bC3.cell 1
  have k2 := bC3.cell 2
  have bB3 := hide (bB.kept hb3)
  have hb3 := hide (hb2.out.trans (hb3.mono hb2.out.size))
  have hMv3 := hide (hMv.out (w1.heap.size + 1) w3 (hkp.out w3 hb3.out) bB3.out)
  clear bC bB bC3
  go_wp2_with fail
  refine Calls.mono hMv3.out ?_
  rintro e w4 ⟨d', p', F', rfl, q1, q2, q3, q4, hb4⟩
  have hs3 := hb3.out.size
  have q1 := hide q1
  have q4 := hide q4
  have hb4 := hide (hb3.out.trans (hb4.mono hs3))
  go_wp2_with fail
  go_ret2
  exact ⟨d', p', F', rfl, q1.out, by omega, by omega, fun j hj => Nat.le_trans hs3 (q4.out j hj), hb4.out⟩
end Go.Proofs.YtfjgpjgphdiliaaGreat
/- Coarsen: a digest of a lesser universe. By the prover of this repo. -/
namespace Go.Proofs.YtfjgpjgphdiliaaGreat
open Go.RowKit
open TwigM RollM StoM

def coarL (n : Int) (l : List Nd) : List Nd := (foldF (l.map fun q => ((pruneF q.1 n).1, q.2))).1
set_option maxRecDepth 100000 in
set_option maxHeartbeats 1000000 in
theorem rec_coarsen (d p : Nat) (K kd L bits : Int) (l : List Nd) (F : Nat → Prop) (w : World) (h : DigAt w d p K kd L l F) (h1 : 0 ≤ bits) (h2 : bits < L)
    (hwf : NdWf (l.map fun q => ((pruneF q.1 (L - bits)).1, q.2))) (hwf2 : NdWf (coarL (L - bits) l)) (hln : (coarL (L - bits) l).length ≤ 1000000) (hld : loadB (L - bits) K kd (coarL (L - bits) l) = true) :
    Calls Tryz.prog 10 #[.pointer (some ⟨d, 0, none⟩), .int .i64 bits] w fun e w' => ∃ d' p' F', e = .returned (.tuple #[.pointer (some ⟨d', 0, none⟩), .int .i64 0]) ∧ DigAt w' d' p' K kd (L - bits) (coarL (L - bits) l) F' ∧ w.heap.size ≤ d' ∧ w.heap.size ≤ p' ∧ (∀ j, F' j → w.heap.size ≤ j) ∧ Below w.heap.size w w' := by
  have hL := h.pool.uni
  have hC := hide (digest_conf d p K kd L l F w h)
  have hkp := hide (fun W (hW : Below w.heap.size w W) => h.kept hW)
  have hMv := hide (fun (b : Nat) (W : World) (q : DigAt W d p K kd L l F) (hb : Blk W b 23 #[.int .i64 (L - bits), .int .i64 K, .int .i64 kd]) => coarsen_moved d p b K kd L (L - bits) (L - bits) K kd l F W q hb (by omega) hwf hwf2 hln hld)
  clear h hwf hwf2 hln hld
  unfold coarL
  generalize (foldF (l.map fun q => ((pruneF q.1 (L - bits)).1, q.2))).1 = G at *
  unfold conf at hC hMv
  go_enter Tryz.func10, Tryz.ntmps10
  go_wp2_with fail
  refine Calls.mono hC.out ?_
  rintro e w1 ⟨rfl, hb1⟩
  have hb1 := hide hb1
  have hbs := hb1.out.size
  have bC := Blk.made w1 23 #[.int .i64 (L - bits), .int .i64 K, .int .i64 kd]
  have hb2 := hide (hb1.out.trans ((balloc0 w1 (.cells #[.int .i64 (L - bits), .int .i64 K, .int .i64 kd] 23)).mono hbs))
  have hMv3 := hide (hMv.out w1.heap.size _ (hkp.out _ hb2.out) bC)
  clear bC
  go_wp2_with fail
  refine Calls.mono hMv3.out ?_
  rintro e w4 ⟨d', p', F', rfl, q1, q2, q3, q4, hb4⟩
  have hs3 := hb2.out.size
  have q1 := hide q1
  have q4 := hide q4
  have hb4 := hide (hb2.out.trans (hb4.mono hs3))
  go_wp2_with fail
  go_ret2
  exact ⟨d', p', F', rfl, q1.out, by omega, by omega, fun j hj => Nat.le_trans hs3 (q4.out j hj), hb4.out⟩
end Go.Proofs.YtfjgpjgphdiliaaGreat
/- Plain facts on bags, on: putting one by one; the rank of a value; the value of a rank. No program in sight. By the prover of this repo. -/
namespace Go.Proofs.YtfjgpjgphdiliaaGreat
namespace BagM
open TwigM Go.RowKit

/-- A value's weight more, gone through once. -/
def putR (x n : Int) (done : Bool) : List Rg → List Rg
  | [] => if done = true then [] else [(x, n)]
  | p :: l => if p.1 = x then (p.1, p.2 + n) :: putR x n true l else if x < p.1 ∧ done = false then (x, n) :: p :: putR x n true l else p :: putR x n done l
theorem putR_done (x n : Int) : ∀ l : List Rg, (∀ p ∈ l, x < p.1) → putR x n true l = l
  | [], _ => rfl
  | p :: l, h => by
    have h1 := h p (by simp)
    rw [putR, if_neg (by omega), if_neg (by simp), putR_done x n l fun q hq => h q (by simp [hq])]
theorem putR_put (x n : Int) : ∀ l : List Rg, (l.Pairwise fun p q => p.1 < q.1) → putR x n false l = put x n l
  | [], _ => rfl
  | p :: l, h => by
    have h' := List.pairwise_cons.1 h
    rw [putR, put]
    by_cases h1 : p.1 = x
    · rw [if_pos h1, if_pos h1, putR_done x n l fun q hq => by have := h'.1 q hq; omega, h1]
    · rw [if_neg h1, if_neg h1]
      by_cases h2 : x < p.1
      · rw [if_pos ⟨h2, rfl⟩, if_pos h2, putR_done x n l fun q hq => by have := h'.1 q hq; omega]
      · rw [if_neg (fun k => h2 k.1), if_neg h2, putR_put x n l h'.2]

theorem bet_take (x y : Int) : ∀ l : List Rg, (l.Pairwise fun p q => p.1 < q.1) → (∀ p ∈ l, x ≤ p.1) → ∀ i, (h : i < l.length) → l[i].1 = y → bet x y l = tot (l.take (i + 1))
  | [], _, _, i, h, _ => by simp at h
  | p :: l, hs, hx, 0, _, e => by
    have h' := List.pairwise_cons.1 hs
    simp only [List.getElem_cons_zero] at e
    rw [bet, if_pos ⟨hx p (by simp), by omega⟩, bet_zero x y l fun q hq => by have := h'.1 q hq; omega]
    simp [tot]
  | p :: l, hs, hx, i + 1, h, e => by
    have h' := List.pairwise_cons.1 hs
    simp only [List.getElem_cons_succ] at e
    have hil : i < l.length := by simpa using h
    have hlt := h'.1 l[i] (List.getElem_mem hil)
    rw [bet, if_pos ⟨hx p (by simp), by omega⟩, bet_take x y l h'.2 (fun q hq => hx q (by simp [hq])) i hil e, List.take_succ_cons, tot]
theorem rank_at {L : Int} (l : List Rg) (hs : l.Pairwise fun p q => p.1 < q.1) (hi0 : In L l) (i : Nat) (h : i < l.length) : rank l[i].1 l = tot (l.take (i + 1)) :=
  bet_take 0 _ l hs (fun p hp => (hi0 p hp).1) i h rfl
theorem kth_spec : ∀ (l : List Rg) (r : Int) (i : Nat), (∀ p ∈ l, 1 ≤ p.2) → (h : i < l.length) → tot (l.take i) < r → r ≤ tot (l.take (i + 1)) → kthGo r l = l[i].1
  | [], r, i, _, h, _, _ => by simp at h
  | p :: l, r, 0, _, _, _, h2 => by
    simp [tot] at h2
    rw [kthGo, if_pos h2]
    rfl
  | p :: l, r, i + 1, hp, h, h1, h2 => by
    have hpl : ∀ q ∈ l, 1 ≤ q.2 := fun q hq => hp q (by simp [hq])
    have h3 := tot_nonneg (l.take i) fun q hq => hpl q (List.mem_of_mem_take hq)
    rw [List.take_succ_cons, tot] at h1 h2
    rw [kthGo, if_neg (by omega), List.getElem_cons_succ]
    exact kth_spec l (r - p.2) i hpl (by simpa using h) (by omega) (by omega)
end BagM
end Go.Proofs.YtfjgpjgphdiliaaGreat

/- Part 17 of the proof: texts joined by this repo's tools/merge.py (PressL DigA DigB DigC DigD). By the prover of this repo. -/
import Derived.Test.YtfjgpjgphdiliaaGreatM16
import Derived.Deep.RegionWith
set_option linter.unusedVariables false
set_option linter.unusedSimpArgs false
/- Light: is no node but leaves too heavy? By the prover of this repo. -/
namespace Go.Proofs.YtfjgpjgphdiliaaGreat
open Go.RowKit Go.Shelf
open TwigM RollM StoM

attribute [local go_sem] Oper.semAt_some

def heavyB (L m : Int) (q : Nd) : Bool := decide (q.1 < pw L) && decide (m < q.2)
def lightB (L m : Int) (l : List Nd) : Bool := l.all fun q => !heavyB L m q
theorem lightB_iff {L m : Int} {l : List Nd} (hc : Canon l) (hu : InU L l) (hm : 0 ≤ m) : lightB L m l = true ↔ LightW L m l := by
  unfold lightB heavyB LightW
  rw [List.all_eq_true]
  constructor
  · intro h id h1 h2
    by_cases hz : wt id l = 0
    · omega
    · obtain ⟨p, hp, e⟩ := mem_wt hz
      have h3 := h p hp
      have h4 := wt_mem hc hp
      simp at h3
      rw [e] at h3 h4
      rw [h4]
      omega
  · intro h p hp
    have h3 := h p.1 (hu p hp).1
    have h4 := wt_mem hc hp
    simp
    by_cases h5 : p.1 < pw L
    · right
      rw [← h4]
      exact h3 h5
    · left; omega
theorem below_keepsFrom {A B : World} (h : Below A.heap.size A B) (n : Nat) : KeepsFrom n A B := ⟨h.size, fun k o _ hk _ => (h.block k (Array.getElem?_eq_some_iff.1 hk).1).trans hk⟩
theorem light_pre {L m : Int} {a b : List NdU} (h : a <+: b) (hf : lightB L m (a.map (·.1)) = false) : lightB L m (b.map (·.1)) = false := by
  obtain ⟨t, rfl⟩ := h
  unfold lightB at hf ⊢
  rw [List.map_append, List.all_append, hf]
  rfl
set_option maxRecDepth 100000 in
set_option maxHeartbeats 2000000 in
theorem press_light (p : Nat) (kd L K : Int) (l : List Nd) (F : Nat → Prop) (w : World) (h : PoolAt w p kd L l F) (hK : 1 ≤ K) (hK2 : K ≤ 1048576) :
    Calls Tryz.prog 95 #[.pointer (some ⟨p, 0, none⟩), .int .i64 K] w fun e w' => e = .returned (.bool (lightB L (sumL l / K) l)) ∧ Below w.heap.size w w' := by
  obtain ⟨hL1, hL2⟩ := h.uni
  have hp48 := pw_le48 hL2
  have hU := asU_map l h.allU
  generalize asU l h.allU = U at *
  have hW := hide (fun W => wrong_c p K W hK hK2)
  have hT := hide (fun W (hW : Below w.heap.size w W) => pool_total p kd L l F W (h.kept hW))
  have hC := hide (fun W => cap_c (sumL l) K W (sumL_nonneg l h.canon.cntL) hK h.sum (by omega))
  have hm0 : 0 ≤ sumL l / K := Int.ediv_nonneg (sumL_nonneg l h.canon.cntL) (by omega)
  have hkeep := hide (fun W (hW : Below w.heap.size w W) => h.kept hW)
  clear h
  have hnil : ∀ (x : Option Addr) (W : World), (binOp BinOp.eql 156 (.func (.func 140) #[] #[.pointer x]) .nilFunc).run Tryz.prog W = .ok (.bool false) W := fun _ _ => by kernel_rfl
  generalize hM : sumL l / K = M at *
  clear hM
  obtain ⟨R, hR⟩ : ∃ R, Hid (lightB L M l = R) := ⟨_, rfl⟩
  rw [hR.out]
  refine (callsIn_wide (n := 9)).1 ?_
  refine callsIn_of_wp_marks Tryz.func95 rfl trivial ?_ rfl
  simp only [Tryz.ntmps95, List.size_toArray, List.length_cons, List.length_nil, Nat.reduceAdd, Nat.reduceSub, Array.replicate_succ, Array.replicate_zero, List.push_toArray, List.append_toArray, List.nil_append, List.cons_append]
  refine wpIn_wide.2 ?_
  go_wp2_with fail
  refine Calls.mono (hW.out _) ?_
  rintro e w1 ⟨rfl, rfl⟩
  go_wp2_with fail
  have hb0 : Below w.heap.size w ((w.alloc (.cells #[.pointer (some ⟨p, 0, none⟩)] 48)).alloc (.cells #[.bool false] 4)) := balloc (balloc0 w _) _
  refine Calls.mono (hT.out _ hb0) ?_
  rintro e w1 ⟨rfl, hb1⟩
  have b2 : Blk w1 w.heap.size 48 #[.pointer (some ⟨p, 0, none⟩)] := ((Blk.made w _ _).alloc _).kept hb1
  have b4 : Blk w1 (w.heap.size + 1) 4 #[.bool false] := (Blk.made_at _ _ _ (by simp)).kept hb1
  have c2 := b2.cell 0
  have hz1 : w.heap.size + 2 ≤ w1.heap.size := by have := hb1.size; simpa using this
  have hb1 := hide (hb0.trans (hb1.mono (by simp; omega)))
  have hl2 : w.heap.size < w1.heap.size := by omega
  clear hb0
  go_wp2_with fail
  refine Calls.mono (hC.out _) ?_
  rintro e w2 ⟨rfl, rfl⟩
  go_wp2_with fail
  refine Calls.mono (pool_each _ _) ?_
  rintro e w2 ⟨rfl, rfl⟩
  go_wp2_with fail
  have hB1 : Below w1.heap.size w1 ((w1.alloc (.cells #[.int .i64 M] 3)).alloc (.cells #[.pointer (some ⟨p, 0, none⟩)] 48)) := balloc (balloc0 w1 _) _
  have b5 : Blk ((w1.alloc (.cells #[.int .i64 M] 3)).alloc (.cells #[.pointer (some ⟨p, 0, none⟩)] 48)) w1.heap.size 3 #[.int .i64 M] := (Blk.made w1 _ _).alloc _
  have bE : Blk ((w1.alloc (.cells #[.int .i64 M] 3)).alloc (.cells #[.pointer (some ⟨p, 0, none⟩)] 48)) (w1.heap.size + 1) 48 #[.pointer (some ⟨p, 0, none⟩)] := Blk.made_at _ _ _ (by simp)
  have b2' := b2.kept hB1
  have b4' := b4.kept hB1
  have hsz := hb1.out.size
  have hB2 := hb1.out.trans (hB1.mono hsz)
  have hWs : ((w1.alloc (.cells #[.int .i64 M] 3)).alloc (.cells #[.pointer (some ⟨p, 0, none⟩)] 48)).heap.size = w1.heap.size + 2 := by simp
  generalize ((w1.alloc (.cells #[.int .i64 M] 3)).alloc (.cells #[.pointer (some ⟨p, 0, none⟩)] 48)) = W2 at *
  have hst := pool_stops (9 - 1) (by omega) (w1.heap.size + 1) p kd L l F U hU W2 (by omega) (bE.cell 0) (hkeep.out W2 hB2)
  clear bE b2 b4 c2 hB1
  refine (wpIn_wide (n := 9)).1 ?_
  refine wpIn_rangeFunc_ownG (n := 9) rfl (by omega) (gf := 140) (lb := #[.pointer (some ⟨w1.heap.size + 1, 0, none⟩)]) rfl trivial (enters_of Tryz.func140 (by kernel_rfl) rfl)
    hst KeepN.trans (fun W j o o' _ hj ho _ => keepN_put W j o o' hj ho) (Below.refl _ _) (fun _ => rfl)
    (fun pre W => lightB L M (pre.map (·.1)) = true ∧ Blk W w.heap.size 48 #[.pointer (some ⟨p, 0, none⟩)] ∧ Blk W (w.heap.size + 1) 4 #[.bool false] ∧ Blk W w1.heap.size 3 #[.int .i64 M] ∧ Below w.heap.size w W)
    (fun c pre W => c = .ret ∧ lightB L M (pre.map (·.1)) = false ∧ Blk W (w.heap.size + 1) 4 #[.bool false] ∧ Below w.heap.size w W)
    (fun pre A B row hs hg hr => ⟨hs.1, blk_own hs.2.1 hg hr, blk_own hs.2.2.1 hg hr, blk_own hs.2.2.2.1 hg hr, below_own hs.2.2.2.2 hs.2.2.2.2.size (by omega) hg hr⟩)
    (fun c pre A B row hs hg hr => ⟨hs.1, hs.2.1, blk_own hs.2.2.1 hg hr, below_own hs.2.2.2 hs.2.2.2.size (by omega) hg hr⟩)
    ⟨rfl, b2', b4', b5, hB2⟩
    (fun x => { tmps := ((.pointer (some ⟨p, 0, none⟩) : Value) :: (.int .i64 K : Value) :: (.pointer (some ⟨w.heap.size, 0, none⟩) : Value) :: undef :: (.pointer (some ⟨w.heap.size + 1, 0, none⟩) : Value) :: (.pointer (some ⟨w1.heap.size, 0, none⟩) : Value) :: (.int .i64 x.1.1 : Value) :: (.int .i64 x.1.2 : Value) :: undef :: undef :: undef :: (.pointer (some ⟨p, 0, none⟩) : Value) :: (.int .i64 K : Value) :: (.int .i64 0 : Value) :: (.bool false : Value) :: (.pointer (some ⟨p, 0, none⟩) : Value) :: (.int .i64 (sumL l) : Value) :: (.int .i64 K : Value) :: (.int .i64 M : Value) :: (.pointer (some ⟨p, 0, none⟩) : Value) :: (.func (.func 140) #[] #[.pointer (some ⟨w1.heap.size + 1, 0, none⟩)] : Value) :: (.int .i64 x.1.1 : Value) :: (.int .i64 x.1.2 : Value) :: undef :: undef :: undef :: undef :: undef :: undef :: undef :: undef :: undef :: undef :: undef :: undef :: undef :: undef :: []).toArray, defers := [] }) ?assign ?body ?done ?stop
  case assign =>
    intro l x W K hK
    dsimp only [encN]
    gi_wp2
    exact hK
  case body =>
    rintro lp pre x W ⟨hlt, hb2, hb4, hb5, hB⟩ hlen
    have c2 := hb2.cell 0
    have hPl := hide (pool_l p kd L l F W (hkeep.out W hB))
    obtain ⟨⟨y, cnt⟩, hx⟩ := x
    have hli : Hid (lightB L M ((pre ++ [(⟨(y, cnt), hx⟩ : NdU)]).map (·.1)) = !heavyB L M (y, cnt)) := by
      show _ = _
      rw [List.map_append]
      unfold lightB at hlt ⊢
      rw [List.all_append, hlt]
      simp
    simp only [] at hx ⊢
    have hb2 := hide hb2
    have hb4 := hide hb4
    have hb5 := hide hb5
    have hB := hide hB
    clear hst b5 b2' b4' hB2 hlt
    by_cases hy : y < pw L
    · have hK1 := hide (fun V => kids_yes hL1 hL2 hx.1 hy V)
      by_cases hc : M < cnt
      · have hh : heavyB L M (y, cnt) = true := by unfold heavyB; simp [hy, hc]
        rw [hh] at hli
        gi_wp2_with (refine ⟨trivial, ?_⟩; first
          | (gi_at_call 25; refine (CallsIn.inRound lp (callsIn_wide.2 hPl.out)).mono ?_; rintro e w5 ⟨rfl, hq⟩; have hq1 := hide hq; have c5 := (hb5.out.kept hq).cell 0; have c4 := (hb4.out.kept hq).cell 0; have f4 := (hb4.out.kept hq).free 0; clear hq)
          | (gi_at_call 126; refine (CallsIn.inRound lp (callsIn_wide.2 (hK1.out _))).mono ?_; rintro e w6 ⟨rfl, rfl⟩))
        have hq := hq1.out
        have b4n := (hb4.out.kept hq).set 0 (.bool false)
        have hlo := (hB.out.trans (hq.mono hB.out.size)).setCell (p := ⟨w.heap.size + 1, 0, none⟩) (Nat.le_succ _) (.bool false)
        exact ⟨(below_keepsFrom hq _).trans ((KeepsOthers.setCell _ _ _).from _), rfl, by rw [hli.out]; rfl, by simpa using b4n, hlo⟩
      · have hh : heavyB L M (y, cnt) = false := by unfold heavyB; simp [hc]
        rw [hh] at hli
        gi_wp2_with (refine ⟨trivial, ?_⟩; first
          | (gi_at_call 25; refine (CallsIn.inRound lp (callsIn_wide.2 hPl.out)).mono ?_; rintro e w5 ⟨rfl, hq⟩; have hq1 := hide hq; have c5 := (hb5.out.kept hq).cell 0; clear hq)
          | (gi_at_call 126; refine (CallsIn.inRound lp (callsIn_wide.2 (hK1.out _))).mono ?_; rintro e w6 ⟨rfl, rfl⟩))
        have hq := hq1.out
        exact ⟨below_keepsFrom hq _, below_keepN hq, by rw [hli.out]; rfl, hb2.out.kept hq, hb4.out.kept hq, hb5.out.kept hq, hB.out.trans (hq.mono hB.out.size)⟩
    · have hK1 := hide (fun V => kids_no (L := L) (x := y) (fun k => hy k.2.2.2) V)
      have hh : heavyB L M (y, cnt) = false := by unfold heavyB; simp [hy]
      rw [hh] at hli
      gi_wp2_with (refine ⟨trivial, ?_⟩; first
        | (gi_at_call 25; refine (CallsIn.inRound lp (callsIn_wide.2 hPl.out)).mono ?_; rintro e w5 ⟨rfl, hq⟩; have hq1 := hide hq; have c5 := (hb5.out.kept hq).cell 0; clear hq)
        | (gi_at_call 126; refine (CallsIn.inRound lp (callsIn_wide.2 (hK1.out _))).mono ?_; rintro e w6 ⟨rfl, rfl⟩))
      have hq := hq1.out
      exact ⟨below_keepsFrom hq _, below_keepN hq, by rw [hli.out]; rfl, hb2.out.kept hq, hb4.out.kept hq, hb5.out.kept hq, hB.out.trans (hq.mono hB.out.size)⟩
  case done =>
    rintro D ys W hD hys ⟨hlt, hb2, hb4, hb5, hB⟩ hKd
    have hRt : R = true := by rw [← hR.out, ← hU, ← hys]; exact hlt
    subst hRt
    have c4 := hb4.cell 0
    have f4 := hb4.free 0
    have hb4 := hide hb4
    have hBs := hB.size
    have hB := hide hB
    have hKd := hide hKd
    clear hst b5 b2' b4' hB2 hlt hb2 hb5 hys hR
    go_wp2_with fail
    have hK' := (KeepsOthers.setCell W ⟨w.heap.size + 1, 0, none⟩ (.bool true)).same D _ hKd.out rfl
    refine ⟨by simp, .inl ⟨_, _, rfl, run_takeDeferred hK', ?_⟩⟩
    have b4n := (hb4.out.set 0 (.bool true)).turned (grown_turn (grownBy_putObj' _ D (.deferred none))) (by omega)
    have hc5 := b4n.cell 0
    simp only [List.setIfInBounds_toArray, List.set_cons_zero] at hc5
    refine ⟨.bool true, by simp [results, Tryz.results95, go_sem, hc5], rfl, ?_⟩
    exact (hB.out.setCell (p := ⟨w.heap.size + 1, 0, none⟩) (Nat.le_succ _) (.bool true)).trans ((grown_turn (grownBy_putObj' _ D (.deferred none))).below w.heap.size (by simpa using hBs) fun j hj e => by omega)
  case stop =>
    rintro D c pre W hD hSp ⟨rfl, hlf, hb4, hB⟩ hKd
    have hRf : R = false := by rw [← hR.out, ← hU]; exact light_pre hSp hlf
    subst hRf
    have c4 := hb4.cell 0
    have hBs := hB.size
    have hB := hide hB
    have hKd := hide hKd
    have hb4 := hide hb4
    clear hst b5 b2' b4' hB2 hlf hSp hR
    gi_wp2
    refine ⟨by simp, .inl ⟨_, _, rfl, run_takeDeferred hKd.out, ?_⟩⟩
    have hc5 := (hb4.out.turned (grown_turn (grownBy_putObj' W D (.deferred none))) (by omega)).cell 0
    refine ⟨.bool false, by simp [results, Tryz.results95, go_sem, hc5], rfl, ?_⟩
    exact hB.out.trans ((grown_turn (grownBy_putObj' W D (.deferred none))).below w.heap.size hBs fun j hj e => by omega)
end Go.Proofs.YtfjgpjgphdiliaaGreat
/- The walks of digest.*: New, what is read, Compress. By the prover of this repo. -/
namespace Go.Proofs.YtfjgpjgphdiliaaGreat
open Go.RowKit
open TwigM RollM StoM

/-- A digest, in block d: its k, and its pool. -/
structure DigAt (w : World) (d p : Nat) (K kd L : Int) (l : List Nd) (F : Nat → Prop) : Prop where
  blk : Blk w d 56 #[.int .i64 K, .pointer (some ⟨p, 0, none⟩)]
  pool : PoolAt w p kd L l F
  ndp : d ≠ p
  ndF : ¬ F d
  k1 : 1 ≤ K
  k2 : K ≤ 1048576
theorem DigAt.kept {w w' : World} {d p : Nat} {K kd L : Int} {l : List Nd} {F : Nat → Prop} (h : DigAt w d p K kd L l F) (b : Below w.heap.size w w') : DigAt w' d p K kd L l F :=
  ⟨h.blk.kept b, h.pool.kept b, h.ndp, h.ndF, h.k1, h.k2⟩
theorem DigAt.lt {w : World} {d p : Nat} {K kd L : Int} {l : List Nd} {F : Nat → Prop} (h : DigAt w d p K kd L l F) : d < w.heap.size ∧ p < w.heap.size ∧ ∀ j, F j → j < w.heap.size := ⟨h.blk.lt, h.pool.lt⟩
def conf (L K kd : Int) : Value := .agg #[.int .i64 L, .int .i64 K, .int .i64 kd]
def confB (L K kd : Int) : Bool := kindB kd L && (decide (1 ≤ K) && decide (K ≤ 1048576))
theorem digest_new_no (L K kd : Int) (w : World) (h : confB L K kd = false) :
    Calls Tryz.prog 5 #[conf L K kd] w fun e w' => e = .returned (.tuple #[.pointer none, .int .i64 2]) ∧ Below w.heap.size w w' := by
  unfold conf
  have hb0 := balloc0 w (.cells #[.int .i64 L, .int .i64 K, .int .i64 kd] 23)
  have bC := Blk.made w 23 #[.int .i64 L, .int .i64 K, .int .i64 kd]
  by_cases hk : kindB kd L = true
  · have hK : K < 1 ∨ 1048576 < K := by
      unfold confB at h
      rw [hk, Bool.true_and] at h
      by_cases h1 : 1 ≤ K
      · by_cases h2 : K ≤ 1048576
        · simp [h1, h2] at h
        · omega
      · omega
    have hN := hide (fun W => pool_new kd L W hk)
    have hk2 := hide (fun W (hW : Below (w.heap.size + 1) (w.alloc (.cells #[.int .i64 L, .int .i64 K, .int .i64 kd] 23)) W) => (bC.kept (by simpa using hW)).cell 1)
    clear h hk bC
    rcases hK with hK | hK
    all_goals
      go_enter Tryz.func5, Tryz.ntmps5
      go_wp2_with fail
      refine Calls.mono (hN.out _) ?_
      rintro e w1 ⟨p, F, rfl, hp, -, -, hb1⟩
      have c1 := hk2.out w1 (by simpa using hb1)
      have hb := hide (hb0.trans (hb1.mono (by simp)))
      clear hp hb1
      go_wp2_with fail
      go_ret2
      exact ⟨rfl, hb.out⟩
  · have hN := hide (fun W => pool_new_no kd L W (by simpa using hk))
    clear h hk bC
    go_enter Tryz.func5, Tryz.ntmps5
    go_wp2_with fail
    refine Calls.mono (hN.out _) ?_
    rintro e w1 ⟨rfl, hb1⟩
    have hb := hide (hb0.trans (hb1.mono (by simp)))
    clear hb1
    go_wp2_with fail
    go_ret2
    exact ⟨rfl, hb.out⟩
theorem digest_new (L K kd : Int) (w : World) (h : confB L K kd = true) :
    Calls Tryz.prog 5 #[conf L K kd] w fun e w' => ∃ d p F, e = .returned (.tuple #[.pointer (some ⟨d, 0, none⟩), .int .i64 0]) ∧ DigAt w' d p K kd L [] F ∧ w.heap.size ≤ d ∧ w.heap.size ≤ p ∧ (∀ j, F j → w.heap.size ≤ j) ∧ Below w.heap.size w w' := by
  unfold conf
  unfold confB at h
  obtain ⟨hk, hK⟩ := Bool.and_eq_true_iff.1 h
  have hK2 : 1 ≤ K ∧ K ≤ 1048576 := by simpa using hK
  obtain ⟨h1, h2⟩ := hK2
  have hb0 := balloc0 w (.cells #[.int .i64 L, .int .i64 K, .int .i64 kd] 23)
  have bC := Blk.made w 23 #[.int .i64 L, .int .i64 K, .int .i64 kd]
  have hN := hide (fun W => pool_new kd L W hk)
  have hk2 := hide (fun W (hW : Below (w.heap.size + 1) (w.alloc (.cells #[.int .i64 L, .int .i64 K, .int .i64 kd] 23)) W) => (bC.kept (by simpa using hW)).cell 1)
  clear h hk bC hK
  go_enter Tryz.func5, Tryz.ntmps5
  go_wp2_with fail
  refine Calls.mono (hN.out _) ?_
  rintro e w1 ⟨p, F, rfl, hp, hpw, hF, hb1⟩
  have c1 := hk2.out w1 (by simpa using hb1)
  have hsz := hb1.size
  have hb := hide (hb0.trans (hb1.mono (by simp)))
  have hpl := hp.lt
  have hph := hide hp
  have hF := hide hF
  clear hp hb1
  have hl1 : w.heap.size + 1 ≤ w1.heap.size := by simpa using hsz
  go_wp2_with fail
  go_ret2
  have hpw2 : w.heap.size + 1 ≤ p := by simpa using hpw
  refine ⟨w1.heap.size, p, F, rfl, ⟨Blk.made _ _ _, hph.out.kept (balloc0 _ _), by omega, fun k => by have := hpl.2 _ k; omega, h1, h2⟩, by omega, by omega, fun j hj => by have := hF.out j hj; simp at this; omega, balloc hb.out _⟩
theorem digest_room (K : Int) (w : World) (h1 : 1 ≤ K) (h2 : K ≤ 1048576) : Calls Tryz.prog 40 #[.agg #[.int .i64 K]] w fun e w' => e = .returned (.int .i64 (8 * K)) ∧ Below w.heap.size w w' := by
  go_enter Tryz.func40, Tryz.ntmps40
  go_wp2_with fail
  go_ret
  exact ⟨rfl, balloc0 _ _⟩
section
variable (d p : Nat) (K kd L : Int) (l : List Nd) (F : Nat → Prop) (w : World)
theorem digest_n (h : DigAt w d p K kd L l F) : Calls Tryz.prog 35 #[.pointer (some ⟨d, 0, none⟩)] w fun e w' => e = .returned (.int .i64 (sumL l)) ∧ Below w.heap.size w w' := by
  have c1 := h.blk.cell 1
  have hP := hide (pool_total p kd L l F w h.pool)
  clear h
  go_enter Tryz.func35, Tryz.ntmps35
  go_wp2_with fail
  refine Calls.mono hP.out ?_
  rintro e w1 ⟨rfl, hb⟩
  go_wp2_with fail
  go_ret
  exact ⟨rfl, hb⟩
theorem digest_len (h : DigAt w d p K kd L l F) : Calls Tryz.prog 36 #[.pointer (some ⟨d, 0, none⟩)] w fun e w' => e = .returned (.int .i64 (l.length : Int)) ∧ Below w.heap.size w w' := by
  have c1 := h.blk.cell 1
  have hP := hide (pool_len p kd L l F w h.pool)
  clear h
  go_enter Tryz.func36, Tryz.ntmps36
  go_wp2_with fail
  refine Calls.mono hP.out ?_
  rintro e w1 ⟨rfl, hb⟩
  go_wp2_with fail
  go_ret
  exact ⟨rfl, hb⟩
theorem digest_nodes (h : DigAt w d p K kd L l F) : Calls Tryz.prog 42 #[.pointer (some ⟨d, 0, none⟩)] w fun e w' => ∃ v, e = .returned v ∧ w'.ownsRow w.heap.size 76 2 v l.length (ndv l) ∧ Below w.heap.size w w' := by
  have c1 := h.blk.cell 1
  have hP := hide (pool_snap p kd L l F w h.pool)
  clear h
  go_enter Tryz.func42, Tryz.ntmps42
  go_wp2_with fail
  refine Calls.mono hP.out ?_
  rintro e w1 ⟨v, rfl, hv, hb⟩
  go_wp2_with fail
  go_ret
  exact ⟨v, rfl, hv, hb⟩
end
end Go.Proofs.YtfjgpjgphdiliaaGreat
/- The walks of digest.*, on: Compress. By the prover of this repo. -/
namespace Go.Proofs.YtfjgpjgphdiliaaGreat
open Go.RowKit
open TwigM RollM StoM

theorem DigAt.turned {w w' : World} {d p : Nat} {K kd L : Int} {l l' : List Nd} {F F' : Nat → Prop} (h : DigAt w d p K kd L l F) (hp : PoolAt w' p kd L l' F') (t : Turn F w w') (hF : ∀ j, F' j → F j ∨ w.heap.size ≤ j) : DigAt w' d p K kd L l' F' := by
  have hd := h.lt.1
  refine ⟨h.blk.turned t h.ndF, hp, h.ndp, fun k => ?_, h.k1, h.k2⟩
  rcases hF d k with q | q
  · exact h.ndF q
  · omega
set_option maxRecDepth 100000 in
theorem digest_compress (d p : Nat) (K kd L : Int) (l : List Nd) (F : Nat → Prop) (w : World) (h : DigAt w d p K kd L l F) (hms : meas l (startF l) ≤ 10000000) :
    Calls Tryz.prog 18 #[.pointer (some ⟨d, 0, none⟩)] w fun e w' => e = .returned (.int .i64 ((pressF L K l).2 : Int)) ∧ ∃ F', DigAt w' d p K kd L (pressF L K l).1 F' ∧ Turn F w w' ∧ ∀ j, F' j → F j ∨ w.heap.size ≤ j := by
  have c0 := h.blk.cell 0
  have c1 := h.blk.cell 1
  have hR := hide (fun W (hW : Below w.heap.size w W) => press_Run p kd L K l F W (h.pool.kept hW) h.k1 h.k2 hms)
  have hh := hide h
  clear h hms
  generalize pressF L K l = RC at *
  obtain ⟨l', c⟩ := RC
  simp only at hR ⊢
  go_enter Tryz.func18, Tryz.ntmps18
  go_wp2_with fail
  go_region_with (go_at_call 55; (with_reducible refine (hR.out _ ?_).mono ?_); (first | exact Below.refl _ _ | exact (Below.refl _ _).drew); rintro e w1 ⟨rfl, F', h1, h2, h3⟩; have q := hide (show ∃ F', DigAt w1 d p K kd L l' F' ∧ Turn F w w1 ∧ ∀ j, F' j → F j ∨ w.heap.size ≤ j from ⟨F', hh.out.turned h1 ⟨h2.os, h2.tape, h2.output, h2.size, h2.block⟩ h3, ⟨h2.os, h2.tape, h2.output, h2.size, h2.block⟩, h3⟩); clear h1 h2 h3)
  all_goals
    go_wp2_with fail
    go_ret
    exact ⟨rfl, q.out⟩
end Go.Proofs.YtfjgpjgphdiliaaGreat
/- The walks of digest.*, on: Insert. By the prover of this repo. -/
namespace Go.Proofs.YtfjgpjgphdiliaaGreat
open Go.RowKit
open TwigM RollM StoM

/-- The nodes once a value is put there. -/
def roomF (L K leaf : Int) (l : List Nd) : List Nd := if wt leaf l = 0 ∧ 8 * K ≤ (l.length : Int) then (pressF L K l).1 else l
def insF (L K x c : Int) (l : List Nd) : List Nd := addS (pw L + x) c (roomF L K (pw L + x) l)
theorem leaf_ok {L x : Int} (h1 : 1 ≤ L) (h2 : L ≤ 48) (h3 : 0 ≤ x) (h4 : x < pw L) : leafF L x = (pw L + x, true) := if_pos ⟨h1, h2, h3, h4⟩
theorem leaf_not {L x : Int} (h : ¬ (0 ≤ x ∧ x < pw L)) : leafF L x = (0, false) := if_neg fun k => h k.2.2
set_option maxRecDepth 100000 in
set_option maxHeartbeats 1000000 in
theorem digest_insert (d p : Nat) (K kd L x c : Int) (l : List Nd) (F : Nat → Prop) (w : World) (h : DigAt w d p K kd L l F) (hx1 : 0 ≤ x) (hx2 : x < pw L) (hc1 : 1 ≤ c) (hc2 : sumL l + c ≤ 72057594037927935) (hms : meas l (startF l) ≤ 10000000) (hll : l.length < 1000000) :
    Calls Tryz.prog 13 #[.pointer (some ⟨d, 0, none⟩), .int .i64 x, .int .i64 c] w fun e w' => e = .returned (.int .i64 0) ∧ ∃ F', DigAt w' d p K kd L (insF L K x c l) F' ∧ Turn F w w' ∧ ∀ j, F' j → F j ∨ w.heap.size ≤ j := by
  obtain ⟨hL1, hL2⟩ := h.pool.uni
  have hp48 := pw_le48 hL2
  have hpp := pw_pos L
  have hK1 := h.k1
  have hK2 := h.k2
  have c0 := h.blk.cell 0
  have c1 := h.blk.cell 1
  have hkp := hide (fun W (hW : Below w.heap.size w W) => h.kept hW)
  have hl := hide (fun W (hW : Below w.heap.size w W) => pool_l p kd L l F W (h.pool.kept hW))
  have hT := hide (fun W (hW : Below w.heap.size w W) => pool_total p kd L l F W (h.pool.kept hW))
  have hLf := hide (fun W => leaf_c L x W (by omega))
  rw [leaf_ok hL1 hL2 hx1 hx2] at hLf
  have hA : ∀ (W : World) (l2 : List Nd) (F2 : Nat → Prop), PoolAt W p kd L l2 F2 → sumL l2 = sumL l → l2.length ≤ l.length → Calls Tryz.prog 41 #[.pointer (some ⟨p, 0, none⟩), .int .i64 (pw L + x), .int .i64 c] W fun e w' => e = .returned (.int .i64 0) ∧ ∃ F', PoolAt w' p kd L (addS (pw L + x) c l2) F' ∧ Turn F2 W w' ∧ ∀ j, F' j → F2 j ∨ W.heap.size ≤ j := by
    intro W l2 F2 hp hs hn
    refine pool_add p kd L (pw L + x) c l2 F2 W hp (by omega) (by omega) (by omega) (by rw [hs]; exact hc2) ?_
    rw [len_addS hp.canon _ (by omega)]
    split <;> omega
  replace hA := hide hA
  have hpa := press_all hL1 hK1 h.pool.canon h.pool.inU
  unfold insF roomF
  have hh := hide h
  clear h
  have hs0 := sumL_nonneg l hh.out.pool.canon.cntL
  have hCm := hide (fun W (hW : DigAt W d p K kd L l F) => digest_compress d p K kd L l F W hW hms)
  have hpa : Hid (sumL (pressF L K l).1 = sumL l ∧ (pressF L K l).1.length ≤ l.length) := ⟨hpa.1.sum, hpa.2.1⟩
  clear hms
  by_cases hz : wt (pw L + x) l = 0
  · by_cases hn : 8 * K ≤ (l.length : Int)
    · rw [if_pos ⟨hz, hn⟩]
      go_enter Tryz.func13, Tryz.ntmps13
      go_wp2_with fail
      refine Calls.mono (hl.out _ (Below.refl _ _)) ?_
      rintro e w1 ⟨rfl, hb1⟩
      clear c1
      have c1 := (hkp.out _ hb1).blk.cell 1
      have hb1 := hide hb1
      go_wp2_with fail
      refine Calls.mono (hLf.out _) ?_
      rintro e w2 ⟨rfl, rfl⟩
      go_wp2_with fail
      refine Calls.mono (hT.out _ hb1.out) ?_
      rintro e w2 ⟨rfl, hb2⟩
      have hb2 := hide (hb1.out.trans (hb2.mono hb1.out.size))
      clear c1 hb1
      have hD2 := hide (hkp.out _ hb2.out)
      have c0 := hD2.out.blk.cell 0
      have c1 := hD2.out.blk.cell 1
      have hd2 := hD2.out.lt.1
      go_wp2_with fail
      have hG := hide (fun (e : Later w2.heap.size w2) => pool_get p kd L (pw L + x) l F e.val (hD2.out.pool.kept e.property) (by omega))
      have hLn := hide (fun (e : Later w2.heap.size w2) => digest_len d p K kd L l F e.val (hD2.out.kept e.property))
      have hRm := hide (fun (e : Later w2.heap.size w2) => digest_room K e.val hK1 hK2)
      rw [hz] at hG
      refine wp_region_later (by kernel_rfl) (by kernel_rfl) ?_
      repeat (go_big_quiet_step (first
        | (go_at_call 39; exact calls_later (hG.out _))
        | (go_at_call 36; exact calls_later (hLn.out _))
        | (go_at_call 40; exact calls_later (hRm.out _))
        | exact rfl))
      refine wpQuiet_nil ?_
      rintro _ ⟨e3, rfl⟩
      have hD3 := hide (hD2.out.kept e3.property)
      have hb3 := hide (hb2.out.trans (e3.property.mono hb2.out.size))
      clear c0 c1 hd2
      have c1 := hD3.out.blk.cell 1
      generalize e3.val = w3 at *
      go_wp2_with fail
      refine Calls.mono (hCm.out w3 hD3.out) ?_
      rintro e w4 ⟨rfl, F1, h1, h2, h3⟩
      have hD4 := hide h1
      have ht4 := hide (show Turn F w w4 from (Below.turn hb3.out F).trans h2 fun _ _ k => k)
      have hf4 := hide (show ∀ j, F1 j → F j ∨ w.heap.size ≤ j from fun j hj => (h3 j hj).elim .inl fun k => .inr (Nat.le_trans hb3.out.size k))
      clear h1 h2 h3 c1
      have c1 := hD4.out.blk.cell 1
      go_wp2_with fail
      refine Calls.mono (hA.out w4 (pressF L K l).1 F1 hD4.out.pool hpa.out.1 hpa.out.2) ?_
      rintro e w5 ⟨rfl, F', h1, h2, h3⟩
      have q := hide (hD4.out.turned h1 h2 h3)
      have ht := hide (show Turn F w w5 from ht4.out.trans h2 fun j hj k => (hf4.out j k).elim id fun k => absurd hj (by omega))
      have hf := hide (show ∀ j, F' j → F j ∨ w.heap.size ≤ j from fun j hj => (h3 j hj).elim (hf4.out j) fun k => .inr (Nat.le_trans ht4.out.size k))
      clear h1 h2 h3
      go_wp2_with fail
      go_ret
      exact ⟨rfl, F', q.out, ht.out, hf.out⟩
    · rw [if_neg (fun k => hn k.2)]
      go_enter Tryz.func13, Tryz.ntmps13
      go_wp2_with fail
      refine Calls.mono (hl.out _ (Below.refl _ _)) ?_
      rintro e w1 ⟨rfl, hb1⟩
      clear c1
      have c1 := (hkp.out _ hb1).blk.cell 1
      have hb1 := hide hb1
      go_wp2_with fail
      refine Calls.mono (hLf.out _) ?_
      rintro e w2 ⟨rfl, rfl⟩
      go_wp2_with fail
      refine Calls.mono (hT.out _ hb1.out) ?_
      rintro e w2 ⟨rfl, hb2⟩
      have hb2 := hide (hb1.out.trans (hb2.mono hb1.out.size))
      clear c1 hb1
      have hD2 := hide (hkp.out _ hb2.out)
      have c0 := hD2.out.blk.cell 0
      have c1 := hD2.out.blk.cell 1
      have hd2 := hD2.out.lt.1
      go_wp2_with fail
      have hG := hide (fun (e : Later w2.heap.size w2) => pool_get p kd L (pw L + x) l F e.val (hD2.out.pool.kept e.property) (by omega))
      have hLn := hide (fun (e : Later w2.heap.size w2) => digest_len d p K kd L l F e.val (hD2.out.kept e.property))
      have hRm := hide (fun (e : Later w2.heap.size w2) => digest_room K e.val hK1 hK2)
      rw [hz] at hG
      refine wp_region_later (by kernel_rfl) (by kernel_rfl) ?_
      repeat (go_big_quiet_step (first
        | (go_at_call 39; exact calls_later (hG.out _))
        | (go_at_call 36; exact calls_later (hLn.out _))
        | (go_at_call 40; exact calls_later (hRm.out _))
        | exact rfl))
      refine wpQuiet_nil ?_
      rintro _ ⟨e3, rfl⟩
      have hD3 := hide (hD2.out.kept e3.property)
      have hb3 := hide (hb2.out.trans (e3.property.mono hb2.out.size))
      clear c0 c1 hd2
      have c1 := hD3.out.blk.cell 1
      generalize e3.val = w3 at *
      go_wp2_with fail
      refine Calls.mono (hA.out w3 l F hD3.out.pool rfl (Nat.le_refl _)) ?_
      rintro e w4 ⟨rfl, F', h1, h2, h3⟩
      have q := hide (hD3.out.turned h1 h2 h3)
      have ht := hide (show Turn F w w4 from (Below.turn hb3.out F).trans h2 fun _ _ k => k)
      have hf := hide (show ∀ j, F' j → F j ∨ w.heap.size ≤ j from fun j hj => (h3 j hj).elim .inl fun k => .inr (Nat.le_trans hb3.out.size k))
      clear h1 h2 h3
      go_wp2_with fail
      go_ret
      exact ⟨rfl, F', q.out, ht.out, hf.out⟩
  · rw [if_neg (fun k => hz k.1)]
    have hz2 : (wt (pw L + x) l == 0) = false := by simpa using hz
    go_enter Tryz.func13, Tryz.ntmps13
    go_wp2_with fail
    refine Calls.mono (hl.out _ (Below.refl _ _)) ?_
    rintro e w1 ⟨rfl, hb1⟩
    clear c1
    have c1 := (hkp.out _ hb1).blk.cell 1
    have hb1 := hide hb1
    go_wp2_with fail
    refine Calls.mono (hLf.out _) ?_
    rintro e w2 ⟨rfl, rfl⟩
    go_wp2_with fail
    refine Calls.mono (hT.out _ hb1.out) ?_
    rintro e w2 ⟨rfl, hb2⟩
    have hb2 := hide (hb1.out.trans (hb2.mono hb1.out.size))
    clear c1 hb1
    have hD2 := hide (hkp.out _ hb2.out)
    have c0 := hD2.out.blk.cell 0
    have c1 := hD2.out.blk.cell 1
    have hd2 := hD2.out.lt.1
    go_wp2_with fail
    have hG := hide (fun (e : Later w2.heap.size w2) => pool_get p kd L (pw L + x) l F e.val (hD2.out.pool.kept e.property) (by omega))
    have hLn := hide (fun (e : Later w2.heap.size w2) => digest_len d p K kd L l F e.val (hD2.out.kept e.property))
    have hRm := hide (fun (e : Later w2.heap.size w2) => digest_room K e.val hK1 hK2)
    generalize wt (pw L + x) l = z at *
    refine wp_region_later (by kernel_rfl) (by kernel_rfl) ?_
    repeat (go_big_quiet_step (first
      | (go_at_call 39; exact calls_later (hG.out _))
      | (go_at_call 36; exact calls_later (hLn.out _))
      | (go_at_call 40; exact calls_later (hRm.out _))
      | exact rfl))
    refine wpQuiet_nil ?_
    rintro _ ⟨e3, rfl⟩
    have hD3 := hide (hD2.out.kept e3.property)
    have hb3 := hide (hb2.out.trans (e3.property.mono hb2.out.size))
    clear c0 c1 hd2
    have c1 := hD3.out.blk.cell 1
    generalize e3.val = w3 at *
    go_wp2_with fail
    refine Calls.mono (hA.out w3 l F hD3.out.pool rfl (Nat.le_refl _)) ?_
    rintro e w4 ⟨rfl, F', h1, h2, h3⟩
    have q := hide (hD3.out.turned h1 h2 h3)
    have ht := hide (show Turn F w w4 from (Below.turn hb3.out F).trans h2 fun _ _ k => k)
    have hf := hide (show ∀ j, F' j → F j ∨ w.heap.size ≤ j from fun j hj => (h3 j hj).elim .inl fun k => .inr (Nat.le_trans hb3.out.size k))
    clear h1 h2 h3
    go_wp2_with fail
    go_ret
    exact ⟨rfl, F', q.out, ht.out, hf.out⟩
end Go.Proofs.YtfjgpjgphdiliaaGreat
/- The walks of digest.*, on: what Insert refuses; Reset; Conf. By the prover of this repo. -/
namespace Go.Proofs.YtfjgpjgphdiliaaGreat
open Go.RowKit
open TwigM RollM StoM

def insE (L x c t : Int) : Int := if 0 ≤ x ∧ x < pw L then (if c < 1 then 4 else if 72057594037927935 < t + c then 5 else 0) else 3
set_option maxRecDepth 100000 in
theorem digest_insert_no (d p : Nat) (K kd L x c : Int) (l : List Nd) (F : Nat → Prop) (w : World) (h : DigAt w d p K kd L l F) (hx : x ≤ 9223372036854775807) (hc : c ≤ 9223372036854775807) (hno : insE L x c (sumL l) ≠ 0) :
    Calls Tryz.prog 13 #[.pointer (some ⟨d, 0, none⟩), .int .i64 x, .int .i64 c] w fun e w' => e = .returned (.int .i64 (insE L x c (sumL l))) ∧ Below w.heap.size w w' := by
  obtain ⟨hL1, hL2⟩ := h.pool.uni
  have c1 := h.blk.cell 1
  have hkp := hide (fun W (hW : Below w.heap.size w W) => h.kept hW)
  have hl := hide (fun W (hW : Below w.heap.size w W) => pool_l p kd L l F W (h.pool.kept hW))
  have hT := hide (fun W (hW : Below w.heap.size w W) => pool_total p kd L l F W (h.pool.kept hW))
  have hLf := hide (fun W => leaf_c L x W hx)
  have hs0 := sumL_nonneg l h.pool.canon.cntL
  have hs1 := h.pool.sum
  clear h
  unfold insE at hno ⊢
  by_cases hr : 0 ≤ x ∧ x < pw L
  · rw [leaf_ok hL1 hL2 hr.1 hr.2] at hLf
    rw [if_pos hr] at hno ⊢
    by_cases hc1 : c < 1
    · rw [if_pos hc1]
      clear hno
      go_enter Tryz.func13, Tryz.ntmps13
      go_wp2_with fail
      refine Calls.mono (hl.out _ (Below.refl _ _)) ?_
      rintro e w1 ⟨rfl, hb1⟩
      have hb1 := hide hb1
      go_wp2_with fail
      refine Calls.mono (hLf.out _) ?_
      rintro e w2 ⟨rfl, rfl⟩
      go_wp2_with fail
      go_ret
      exact ⟨rfl, hb1.out⟩
    · rw [if_neg hc1] at hno ⊢
      have hm : 72057594037927935 < sumL l + c := by
        by_cases hm : 72057594037927935 < sumL l + c
        · exact hm
        · rw [if_neg hm] at hno; exact absurd rfl hno
      rw [if_pos hm]
      clear hno
      go_enter Tryz.func13, Tryz.ntmps13
      go_wp2_with fail
      refine Calls.mono (hl.out _ (Below.refl _ _)) ?_
      rintro e w1 ⟨rfl, hb1⟩
      clear c1
      have c1 := (hkp.out _ hb1).blk.cell 1
      have hb1 := hide hb1
      go_wp2_with fail
      refine Calls.mono (hLf.out _) ?_
      rintro e w2 ⟨rfl, rfl⟩
      go_wp2_with fail
      refine Calls.mono (hT.out _ hb1.out) ?_
      rintro e w2 ⟨rfl, hb2⟩
      have hb2 := hide (hb1.out.trans (hb2.mono hb1.out.size))
      go_wp2_with fail
      go_ret
      exact ⟨rfl, hb2.out⟩
  · rw [leaf_not hr] at hLf
    rw [if_neg hr]
    clear hno hr
    go_enter Tryz.func13, Tryz.ntmps13
    go_wp2_with fail
    refine Calls.mono (hl.out _ (Below.refl _ _)) ?_
    rintro e w1 ⟨rfl, hb1⟩
    have hb1 := hide hb1
    go_wp2_with fail
    refine Calls.mono (hLf.out _) ?_
    rintro e w2 ⟨rfl, rfl⟩
    go_wp2_with fail
    go_ret
    exact ⟨rfl, hb1.out⟩
theorem del_head {l : List Nd} (h : Canon l) (i : Nat) (hi : i < l.length) : del l[i].1 (l.drop i) = l.drop (i + 1) := by
  rw [List.drop_eq_getElem_cons hi, del_same rfl]
  unfold del
  rw [List.filter_eq_self]
  intro q hq
  obtain ⟨j, hj, rfl⟩ := List.mem_iff_getElem.1 hq
  rw [List.length_drop] at hj
  rw [List.getElem_drop]
  have := List.pairwise_iff_getElem.1 h.rise i (i + 1 + j) hi (by omega) (by omega)
  simp
  omega
set_option maxRecDepth 100000 in
set_option maxHeartbeats 2000000 in
theorem digest_reset (d p : Nat) (K kd L : Int) (l : List Nd) (F : Nat → Prop) (w : World) (h : DigAt w d p K kd L l F) :
    Calls Tryz.prog 19 #[.pointer (some ⟨d, 0, none⟩)] w fun e w' => (∃ v, e = .returned v) ∧ DigAt w' d p K kd L [] F ∧ Turn F w w' := by
  have c1 := h.blk.cell 1
  have hS := hide (pool_snap p kd L l F w h.pool)
  have hdl := hide (fun i hi => del_head h.pool.canon i hi)
  have hidb := hide (fun x hx => h.pool.allU x hx)
  have hlt := h.lt
  have hll := h.pool.len
  have hh := hide h
  clear h
  obtain ⟨n, hn⟩ : ∃ n, Hid (l.length = n) := ⟨_, rfl⟩
  rw [hn.out] at hS hll
  obtain ⟨hdl1, hpl1, hFl⟩ := hlt
  go_enter Tryz.func19, Tryz.ntmps19
  go_wp2_with fail
  refine Calls.mono hS.out ?_
  rintro e w1 ⟨v, rfl, hv, hb⟩
  obtain ⟨A, c, rfl, hA1, hA2, hA3⟩ := own_form hv
  have hv := hide hv
  have hD1 := hide (hh.out.kept hb)
  have ht1 := hide (Below.turn hb F)
  clear hb c1
  go_wp2_with fail
  go_loopw [13] (fun kv wr => ∃ (i : Nat), kv = .int .i64 i ∧ i ≤ n ∧ Hid (wr.ownsRow w.heap.size 76 2 (.slice A n c) n (ndv l)) ∧ Hid (DigAt wr d p K kd L (l.drop i) F) ∧ Hid (Turn F w wr)) (fun kv _ => n - (intOf kv).toNat)
  case atStart => exact ⟨0, rfl, by omega, hv, by rw [List.drop_zero]; exact hD1, ht1⟩
  case round =>
    obtain ⟨i, rfl, hi, hrow, hD, ht⟩ := hrel
    clear hv hD1 ht1
    by_cases hlt2 : i < n
    · have hil : i < l.length := by rw [hn.out]; exact hlt2
      have hro := hrow.out
      rw [← hn.out] at hro
      obtain ⟨g, cap, e1, hg, cx, cn⟩ := nd_at hro hil
      injection e1 with e1 e2 e3
      subst e1 e3
      have hde := hdl.out i hil
      have hid := hidb.out _ (List.getElem_mem hil)
      have c1 := hD.out.blk.cell 1
      have hdw := hD.out.lt.1
      have hTk := hide (fun (W : World) (hW : Below wr.heap.size wr W) => pool_take p kd L l[i].1 (l.drop i) F W (hD.out.pool.kept hW) (by omega))
      rw [hde] at hTk
      have hgF : ∀ j, F j → j < w.heap.size := hFl
      have hgw := (hrow.out.lt g rfl).1
      clear hro hde
      generalize l[i] = q at *
      obtain ⟨x, y⟩ := q
      simp only at cx cn hTk hid
      have hb1 := hide (balloc0 wr (.cells #[.int .i64 x, .int .i64 y] 76))
      have hsz := ht.out.size
      go_wp2_with fail
      go_region_with (go_at_call 57; (with_reducible refine (hTk.out _ ?_).mono ?_); (first | exact hb1.out | exact hb1.out.drew); rintro e w4 ⟨rfl, h1, h2⟩; have hp4 := hide h1; have t4 := hide (show Turn F wr w4 from (Below.turn hb1.out F).trans (⟨h2.os, h2.tape, h2.output, h2.size, h2.block⟩ : Turn F (wr.alloc (.cells #[.int .i64 x, .int .i64 y] 76)) w4) fun _ _ k => k); clear h1 h2)
      all_goals
        have hrow4 := hide (own_turnedB hrow.out t4.out fun k hk e => by have := hFl k e; have : g = k := Option.some.inj hk; omega)
        have hD4 := hide (show DigAt w4 d p K kd L (l.drop (i + 1)) F from hD.out.turned hp4.out t4.out fun j hj => .inl hj)
        have ht4 := hide (show Turn F w w4 from ht.out.trans t4.out fun _ _ k => k)
        go_wp2_with fail
        go_roundw
        case rel => exact ⟨i + 1, by go_num, by omega, hrow4, hD4, ht4⟩
        case measure => simp [intOf]; omega
    · obtain rfl : i = n := by omega
      have hfin : Hid (DigAt wr d p K kd L [] F) := by
        have := hD.out
        rwa [← hn.out, List.drop_length] at this
      clear hD
      go_wp2_with fail
      go_end0
      exact ⟨⟨_, rfl⟩, hfin.out, ht.out⟩
end Go.Proofs.YtfjgpjgphdiliaaGreat

/- Part 15 of the proof: texts joined by this repo's tools/merge.py (AgdC AgdD Fold EachP). By the prover of this repo. -/
import Derived.Test.YtfjgpjgphdiliaaGreatM14
import Derived.RangeFuncNested
import Derived.RangeFuncBound
import Derived.RangeFuncCalls
import Derived.RangeFuncLeaves
import Derived.Shelf.Abstract
import Derived.Shelf.RegionOpen
import Derived.OwnWalkIn
import Derived.TacticsInMore
import Derived.LoopNIn
import Derived.LoopIn
set_option linter.unusedVariables false
set_option linter.unusedSimpArgs false
/- The walks of layer 10, on: what is taken off the agenda; a new one. By the prover of this repo. -/
namespace Go.Proofs.YtfjgpjgphdiliaaGreat
open Go.RowKit
open TwigM RollM StoM

theorem agd_sink0 (a g cap : Nat) (mv : Value) (w : World) (c0 : w.cell? ⟨a, 0, none⟩ = some (.slice (some ⟨g, 0, none⟩) 0 cap)) :
    Calls Tryz.prog 135 #[.pointer (some ⟨a, 0, none⟩)] w fun e w' => (∃ v, e = .returned v) ∧ w = w' := by
  go_enter Tryz.func135, Tryz.ntmps135
  go_wp2_with fail
  refine wp_loop_rounds 1 ?_
  rw [rounds_succ]
  go_wp2_with fail
  refine wp_loop_rounds 1 ?_
  rw [rounds_succ]
  go_wp2_with fail
  refine bodyPost_ret (results_none rfl _ _ _) rfl ?_
  exact ⟨⟨_, rfl⟩, rfl⟩
theorem own_take {w : World} {e : TypeId} {n k base g cap : Nat} {xs : List Value} (h : w.ownsRow base e 1 (.slice (some ⟨g, 0, none⟩) n cap) n xs) (hk : k ≤ n) : w.ownsRow base e 1 (.slice (some ⟨g, 0, none⟩) k cap) k (xs.take k) := by
  obtain ⟨h1, h2⟩ := h
  refine ⟨by rw [List.length_take]; omega, ?_⟩
  rcases h2 with ⟨h2, _⟩ | ⟨g', cap', cur, e1, hb, hg, hc1, hc2, hc3, hc4⟩
  · simp at h2
  · injection e1 with e1 e2 e3
    simp only [Option.some.injEq, Addr.mk.injEq, and_true] at e1
    subst e1 e3
    refine .inr ⟨g, cap, cur, rfl, hb, hg, by omega, hc2, hc3, ?_⟩
    rw [← hc4, List.take_take]
    congr 1
    omega
theorem hv_take (h : List Int) (k : Nat) : (hv h).take k = hv (h.take k) := by unfold hv; rw [List.map_take]
theorem SetIs.deld {w w' : World} {m n : Nat} {D : DataW Unit} {h : List Int} {id : Int} (hD : ∀ x : Int, -9223372036854775808 ≤ x → x ≤ 9223372036854775807 → Maps.has D (.int .i64 x) = decide (x ∈ h))
    (ho : w'.ownsMap Tryz.prog 3 unitElem m n (D.del (.int .i64 id))) {h' : List Int} (hh : ∀ x, x ∈ h' ↔ x ∈ h ∧ x ≠ id) : SetIs w' m n h' := by
  refine ⟨_, ho, fun x h1 h2 => ?_⟩
  by_cases e : x = id
  · subst e
    rw [Maps.has_del_same]
    symm
    rw [decide_eq_false_iff_not, hh]
    exact fun k => k.2 rfl
  · rw [Maps.has_del_other (by intro q; injection q; contradiction), hD x h1 h2]
    rw [Bool.eq_iff_iff, decide_eq_true_eq, decide_eq_true_eq, hh]
    exact ⟨fun k => ⟨k, e⟩, fun k => k.1⟩
theorem mapTurned_turn {w w' : World} {m : Nat} (h : w.mapTurned w' m) : Turn (fun j => j = m) w w' := grown_turn h.grown
/-- Where the agenda stands before what stands first sinks. -/
theorem pop_row {w : World} {a m n g cap : Nat} {h : List Int} (s : AgdAt w a m (.slice (some ⟨g, 0, none⟩) h.length cap) h n) (hl : 0 < h.length) (hne : a ≠ g) :
    RowAt ((w.setCell ⟨g, 0, none⟩ (.int .i64 (h.getD (h.length - 1) 0))).setCell ⟨a, 0, none⟩ (.slice (some ⟨g, 0, none⟩) (h.length - 1) cap)) a g cap (.map (some m)) ((h.set 0 (h.getD (h.length - 1) 0)).take (h.length - 1)) := by
  have r : RowAt w a g cap (.map (some m)) h := ⟨s.blk, s.row, hne⟩
  have r1 := r.set 0 (h.getD (h.length - 1) 0)
  have hlen : ((h.set 0 (h.getD (h.length - 1) 0)).take (h.length - 1)).length = h.length - 1 := by rw [List.length_take, List.length_set]; omega
  have hr2 := own_take r1.row (k := h.length - 1) (by rw [List.length_set]; omega)
  rw [hv_take] at hr2
  have hb := r1.blk.set 0 (.slice (some ⟨g, 0, none⟩) (h.length - 1) cap)
  refine ⟨by rw [hlen]; simpa using hb, ?_, hne⟩
  rw [hlen]
  exact own_turned hr2 (Turn.setCell _ (fun j => j = a) _ _ rfl) fun k hk e => by
    have : g = k := Option.some.inj hk
    exact hne (by rw [this]; exact e.symm)
theorem map_turned {w w' : World} {S : Nat → Prop} {m n : Nat} {D : DataW Unit} (h : w.ownsMap Tryz.prog 3 unitElem m n D) (t : Turn S w w') (hm : ¬ S m) : w'.ownsMap Tryz.prog 3 unitElem m n D := by
  have hlt := h.lt
  obtain ⟨es, clock, hb, F, hs, e⟩ := h
  exact ⟨es, clock, (t.block m hlt hm).trans hb, F, hs, e⟩
theorem pop_fin {w w5 w6 : World} {a m n g cap c1 : Nat} {x : Int} {T hh : List Int} {D : DataW Unit} (s : AgdAt w a m (.slice (some ⟨g, 0, none⟩) c1 cap) (x :: T) n) (hne : a ≠ g)
    (hD : ∀ x' : Int, -9223372036854775808 ≤ x' → x' ≤ 9223372036854775807 → Maps.has D (.int .i64 x') = decide (x' ∈ x :: T))
    (r : RowAt w5 a g cap (.map (some m)) hh) (t : Turn (fun j => j = a ∨ j = g) w w5) (ho : w6.ownsMap Tryz.prog 3 unitElem m n (D.del (.int .i64 x))) (tm : Turn (fun j => j = m) w5 w6) (e : hh = popA (x :: T)) :
    AgdAt w6 a m (.slice (some ⟨g, 0, none⟩) hh.length cap) hh n ∧ Turn (foot a m (.slice (some ⟨g, 0, none⟩) c1 cap)) w w6 := by
  have hp := popA_perm x T
  rw [← e] at hp
  have hnd := s.nodup
  have hx : x ∉ T := (List.nodup_cons.1 hnd).1
  have hgm : ¬ g = m := fun k => s.ne3 (by rw [← k]; rfl)
  refine ⟨⟨r.blk.turned tm s.ne1, own_turned r.row tm (fun k hk e => hgm (by have : g = k := Option.some.inj hk; rw [this]; exact e)), SetIs.deld (w := w) hD ho fun y => ?_, s.ne1, s.ne2, s.ne3, ?_, ?_, ?_⟩, ?_⟩
  · rw [hp.mem_iff, List.mem_cons]
    constructor
    · intro hy
      exact ⟨.inr hy, fun k => hx (k ▸ hy)⟩
    · rintro ⟨k | k, h2⟩
      · exact absurd k h2
      · exact k
  · intro y hy
    exact s.pos y (List.mem_cons_of_mem _ (hp.mem_iff.1 hy))
  · exact hp.nodup_iff.2 (List.nodup_cons.1 hnd).2
  · have h1 := hp.length_eq
    have h2 := s.len
    rw [List.length_cons] at h2
    omega
  · exact (t.more (T := foot a m (.slice (some ⟨g, 0, none⟩) c1 cap)) fun j _ k => k.elim .inl fun k => .inr (.inr (by rw [k]; rfl))).trans tm fun j _ k => .inr (.inl k)
set_option maxRecDepth 100000 in
set_option maxHeartbeats 4000000 in
theorem agd_pop (a m n : Nat) (v : Value) (x : Int) (T : List Int) (w : World) (s : AgdAt w a m v (x :: T) n) :
    Calls Tryz.prog 115 #[.pointer (some ⟨a, 0, none⟩)] w fun e w' => e = .returned (.tuple #[.int .i64 x, .bool true]) ∧ ∃ v', AgdAt w' a m v' (popA (x :: T)) n ∧ Turn (foot a m v) w w' ∧ v'.ownBlock = v.ownBlock := by
  obtain ⟨g, cap, rfl, r⟩ := s.rowAt (by simp)
  obtain ⟨D, ho, hD⟩ := s.set
  have hL := hide (agd_len a m n _ _ w s)
  have c0 := s.blk.cell 0
  have c1 := s.blk.cell 1
  have f0 := s.blk.free 0
  obtain ⟨ha, hg⟩ := r.lt
  have hne := r.ne
  have hpr := hide (pop_row s (by simp) hne)
  obtain ⟨cx, fx⟩ := r.at (i := 0) (by simp)
  obtain ⟨cl, _⟩ := r.at (i := (x :: T).length - 1) (by simp)
  have hcap : (x :: T).length ≤ cap := by
    obtain ⟨A, c, e, h1, h2, h3⟩ := own_form s.row
    injection e with e1 e2 e3
    rw [e3]; exact h2
  have hcapm : cap ≤ 9223372036854775807 := by
    obtain ⟨A, c, e, h1, h2, h3⟩ := own_form s.row
    injection e with e1 e2 e3
    unfold maxLen at h3
    omega
  have hlen := s.len
  have hsx := s.pos x (by simp)
  have hkey := key_int (x := x) (by omega) (by omega)
  have hsmall : ∀ y ∈ x :: T, y ≤ 9223372036854775807 := fun y hy => by have := (s.pos y hy).2; omega
  have hml := s.set.lt
  have hme := s.ne1
  have hgm : ¬ g = m := fun k => s.ne3 (by rw [← k]; rfl)
  have hfin := hide (fun w5 w6 hh => pop_fin (w5 := w5) (w6 := w6) (hh := hh) s hne hD)
  clear s hD r
  have hpop : popA (x :: T) = dnG (x :: T).length (((x :: T).set 0 ((x :: T).getD ((x :: T).length - 1) 0)).take ((x :: T).length - 1)) 0 := rfl
  obtain ⟨n1, hn1⟩ : ∃ n1, T.length = n1 := ⟨_, rfl⟩
  rw [hpop] at hfin ⊢
  simp only [List.length_cons, hn1, Nat.add_sub_cancel] at c0 cl hcap hlen hpr hfin hL hpop ⊢
  obtain ⟨R, hR⟩ : ∃ R, ((x :: T).set 0 ((x :: T).getD n1 0)).take n1 = R := ⟨_, rfl⟩
  have hRl : Hid (R.length = n1) := by show _ = _; rw [← hR, List.length_take, List.length_set, List.length_cons]; omega
  have hRs : Hid (∀ y ∈ R, y ≤ 9223372036854775807) := by
    intro y hy
    rw [← hR] at hy
    rcases List.mem_or_eq_of_mem_set (List.mem_of_mem_take hy) with k | k
    · exact hsmall y k
    · rw [k]; exact small_at hsmall n1
  rw [hR] at hpr hfin ⊢
  clear hpop hR hsmall
  rw [show (x :: T).getD 0 0 = x from rfl] at cx
  generalize (x :: T).getD n1 0 = y at *
  have ho := hide ho
  have hS : Hid (∀ W, RowAt W a g cap (.map (some m)) R → Calls Tryz.prog 135 #[.pointer (some ⟨a, 0, none⟩)] W fun e w' => (∃ v, e = .returned v) ∧ RowAt w' a g cap (.map (some m)) (dnG (n1 + 1) R 0) ∧ Turn (fun x => x = g) W w') := by
    intro W k
    have hl0 := hRl.out
    by_cases h0 : n1 = 0
    · have hR0 : R = [] := List.length_eq_zero_iff.1 (by omega)
      subst hR0
      rw [dnG_nil]
      refine (agd_sink0 a g cap (.map (some m)) W (k.blk.cell 0)).mono ?_
      rintro e w' ⟨hv, rfl⟩
      exact ⟨hv, k, Turn.refl _ _⟩
    · exact agd_sink (n1 + 1) a g cap (.map (some m)) R W k hRs.out (by omega) (by omega) (by omega)
  have hn1p : (n1 : Int) < ((n1 + 1 : Nat) : Int) := by omega
  go_enter Tryz.func115, Tryz.ntmps115
  go_wp2_with fail
  refine Calls.mono hL.out ?_
  rintro e w1 ⟨rfl, rfl⟩
  go_wp2_with fail
  go_quiet (fail)
  go_wp2_with fail
  go_region
  go_wp2_with fail
  have hW : Hid (RowAt (((w.drewN (nq + 1)).setCell ⟨g, 0, none⟩ (.int .i64 y)).setCell ⟨a, 0, none⟩ (.slice (some ⟨g, 0, none⟩) n1 cap)) a g cap (.map (some m)) R) := ⟨hpr.out.blk, hpr.out.row, hpr.out.ne⟩
  have hT : Hid (Turn (fun j => j = a ∨ j = g) w (((w.drewN (nq + 1)).setCell ⟨g, 0, none⟩ (.int .i64 y)).setCell ⟨a, 0, none⟩ (.slice (some ⟨g, 0, none⟩) n1 cap))) :=
    (((Turn.refl (fun j => j = a ∨ j = g) w).drewN (nq + 1)).trans (Turn.setCell _ (fun j => j = a ∨ j = g) ⟨g, 0, none⟩ _ (.inr rfl)) fun _ _ h => h).trans (Turn.setCell _ (fun j => j = a ∨ j = g) ⟨a, 0, none⟩ _ (.inl rfl)) fun _ _ h => h
  generalize (((w.drewN (nq + 1)).setCell ⟨g, 0, none⟩ (.int .i64 y)).setCell ⟨a, 0, none⟩ (.slice (some ⟨g, 0, none⟩) n1 cap)) = W5 at *
  refine Calls.mono (hS.out W5 hW.out) ?_
  rintro e w6 ⟨⟨v6, rfl⟩, hr6, ht6⟩
  have hT6 := hide (hT.out.trans ht6 fun j _ k => .inr k)
  have ho6 := hide (map_turned ho.out hT6.out (fun k => k.elim (fun k => hme k.symm) fun k => hgm k.symm))
  have c1 := hr6.blk.cell 1
  have hr6 := hide hr6
  clear hT hW ht6 c0 cx cl f0 fx
  go_wp2_with (at_delete; refine wpList_delete_own _ rfl _ _ 167 3 rfl 171 keyInt Tryz.underlying167 _ m n D rfl ho6.out _ _ rfl hkey ?_; intro w7 hown7 hturn7; have hown7 := hide hown7; have hturn7 := hide hturn7)
  go_ret2
  refine ⟨rfl, _, (hfin.out w6 w7 _ hr6.out hT6.out hown7.out (mapTurned_turn hturn7.out) rfl).1, (hfin.out w6 w7 _ hr6.out hT6.out hown7.out (mapTurned_turn hturn7.out) rfl).2, rfl⟩
end Go.Proofs.YtfjgpjgphdiliaaGreat
/- The walks of layer 10, on: a new agenda. By the prover of this repo. -/
namespace Go.Proofs.YtfjgpjgphdiliaaGreat
open Go.RowKit
open TwigM RollM StoM

/-- Numbers as cells. -/
def inc (l : List Int) (i : Nat) : Value := .int .i64 (l.getD i 0)
theorem puts_take (l : List Int) (i : Nat) (hi : i < l.length) : putsA [] (l.take (i + 1)) = putA (putsA [] (l.take i)) (l.getD i 0) := by
  rw [List.take_succ_eq_append_getElem hi]
  unfold putsA
  rw [List.foldl_append, List.getD_eq_getElem?_getD, List.getElem?_eq_getElem hi]
  rfl
theorem puts_len0 (l : List Int) : (putsA [] l).length ≤ l.length := by have := putsA_len l []; simpa using this
set_option maxRecDepth 100000 in
set_option maxHeartbeats 1000000 in
theorem agd_new (A : Option Addr) (c : Nat) (l : List Int) (w : World) (hr : Rd w A l.length 1 (inc l)) (hl : l.length < 100000000) (hb : ∀ x ∈ l, x ≤ 1152921504606846976) :
    Calls Tryz.prog 112 #[.slice A l.length c] w fun e w' => ∃ a m v, e = .returned (.pointer (some ⟨a, 0, none⟩)) ∧ AgdAt w' a m v (putsA [] l) l.length ∧ (∀ j, foot a m v j → w.heap.size ≤ j) ∧ Below w.heap.size w w' := by
  have hmm := @run_makeMap Tryz.prog
  have hrd := hide (fun (W : World) (hW : Below w.heap.size w W) => hr.kept hW)
  have hbd : Hid (∀ i, l.getD i 0 ≤ 1152921504606846976) := fun i => by
    rw [List.getD_eq_getElem?_getD]
    by_cases hi : i < l.length
    · rw [List.getElem?_eq_getElem hi]; exact hb _ (List.getElem_mem hi)
    · rw [List.getElem?_eq_none (by omega)]; show (0 : Int) ≤ _; omega
  have htk := hide (puts_take l)
  have hln : Hid (∀ i, (putsA [] (l.take i)).length ≤ i) := fun i => by
    have := puts_len0 (l.take i)
    rw [List.length_take] at this
    omega
  have hall : Hid (∀ n, l.length = n → putsA [] (l.take n) = putsA [] l) := fun n e => by rw [← e, List.take_length]
  obtain ⟨n, hn⟩ : ∃ n, l.length = n := ⟨_, rfl⟩
  have hal := hide (hall.out n hn)
  have hnh := hide hn
  rw [hn] at hl hrd ⊢
  have htk2 : Hid (∀ i, i < n → putsA [] (l.take (i + 1)) = putA (putsA [] (l.take i)) (l.getD i 0)) := fun i hi => htk.out i (by rw [hn]; exact hi)
  clear hr hb htk hall hn
  have hst : Hid (AgdAt ((w.alloc (.map #[] 0)).alloc (.cells #[.slice none 0 0, .map (some w.heap.size)] 169)) (w.heap.size + 1) w.heap.size (.slice none 0 0) (putsA [] (l.take 0)) 0) := by
    have e0 : putsA [] (l.take 0) = [] := by rw [List.take_zero]; rfl
    show AgdAt _ _ _ _ _ _
    rw [e0]
    refine ⟨Blk.made_at _ _ _ (by simp), World.ownsRow_nil _ _ _ _, (SetIs.made w).turned (Turn.alloc _ (fun _ => False) _) (fun h => h), by omega, by simp [Value.ownBlock], by simp [Value.ownBlock], by simp, List.nodup_nil, by simp⟩
  have hbl : Hid (Below w.heap.size w ((w.alloc (.map #[] 0)).alloc (.cells #[.slice none 0 0, .map (some w.heap.size)] 169))) := balloc (balloc0 w _) _
  go_enter Tryz.func112, Tryz.ntmps112
  go_wp2_with fail
  generalize ((w.alloc (.map #[] 0)).alloc (.cells #[.slice none 0 0, .map (some w.heap.size)] 169)) = W1 at *
  go_loopw [11] (fun kv wr => ∃ (i : Nat), kv = .int .i64 i ∧ i ≤ n ∧ Hid (∃ v, AgdAt wr (w.heap.size + 1) w.heap.size v (putsA [] (l.take i)) i ∧ ∀ j, foot (w.heap.size + 1) w.heap.size v j → w.heap.size ≤ j) ∧ Hid (Below w.heap.size w wr)) (fun kv _ => n - (intOf kv).toNat)
  case atStart =>
    refine ⟨0, rfl, by omega, ⟨_, hst.out, ?_⟩, hbl⟩
    rintro j (e | e | e)
    · omega
    · omega
    · cases e
  case round =>
    obtain ⟨i, rfl, hi, hag, hbel⟩ := hrel
    clear hst hbl
    by_cases hlt : i < n
    · obtain ⟨b, off, rfl, hb, hcell⟩ := hrd.out wr hbel.out (by omega)
      have cc := hcell i (by omega)
      have hx := hbd.out i
      obtain ⟨v, hv, hf⟩ := hag.out
      have hP := hide (agd_put (w.heap.size + 1) w.heap.size i v (putsA [] (l.take i)) (l.getD i 0) wr hv hx (by have := hln.out i; omega) (by omega))
      rw [← htk2.out i hlt] at hP
      replace hf := hide hf
      unfold inc at cc
      have hi1 : (i : Int) < (n : Int) := by omega
      clear hag hv hcell
      generalize l.getD i 0 = x at *
      go_wp2_with fail
      refine Calls.mono hP.out ?_
      rintro e w2 ⟨⟨bb, rfl⟩, v', h1, h2, h3⟩
      have h1 := hide h1
      have h2 := hide h2
      have h3 := hide h3
      go_wp2_with fail
      go_roundw
      case rel =>
        have hsz := hbel.out.size
        refine ⟨i + 1, by go_num, by omega, ⟨v', h1.out, fun j hj => ?_⟩, hbel.out.trans (h2.out.below _ hsz fun j hj hf2 => absurd (hf.out j hf2) (by omega))⟩
        rcases h3.out j hj with k | k
        · exact hf.out j k
        · omega
      case measure => simp [intOf]; omega
    · obtain rfl : i = n := by omega
      obtain ⟨v, hv, hf⟩ := hag.out
      rw [hal.out] at hv
      have hv := hide hv
      have hf := hide hf
      clear hag
      go_wp2_with fail
      go_ret
      exact ⟨_, _, v, rfl, hv.out, hf.out, hbel.out⟩
end Go.Proofs.YtfjgpjgphdiliaaGreat
/- The walks of layer 10, on: the cap, what a parent's children weigh, and a fold. By the prover of this repo. -/
namespace Go.Proofs.YtfjgpjgphdiliaaGreat
open Go.RowKit
open TwigM RollM StoM

theorem div_c (n k : Int) (w : World) (hn : 0 ≤ n) (hk : 1 ≤ k) (hn2 : n ≤ 72057594037927935) (hk2 : k ≤ 9223372036854775807) :
    Calls Tryz.prog 134 #[.int .i64 n, .int .i64 k] w fun e w' => e = .returned (.tuple #[.int .i64 (n / k), .bool true]) ∧ w = w' := by
  have h1 : 0 ≤ n / k := Int.ediv_nonneg hn (by omega)
  have h2 : n / k ≤ n := Int.ediv_le_self k hn
  have h3 : Int.tdiv n k = n / k := Int.tdiv_eq_ediv_of_nonneg hn
  have hk0 : ¬ k = 0 := by omega
  go_enter Tryz.func134, Tryz.ntmps134
  go_wp2_with fail
  go_ret2
  exact ⟨rfl, rfl⟩
theorem cap_c (n k : Int) (w : World) (hn : 0 ≤ n) (hk : 1 ≤ k) (hn2 : n ≤ 72057594037927935) (hk2 : k ≤ 9223372036854775807) :
    Calls Tryz.prog 111 #[.int .i64 n, .int .i64 k] w fun e w' => e = .returned (.int .i64 (n / k)) ∧ w = w' := by
  have hD := hide (fun W => div_c n k W hn hk hn2 hk2)
  go_enter Tryz.func111, Tryz.ntmps111
  go_wp2_with fail
  refine Calls.mono (hD.out _) ?_
  rintro e w1 ⟨rfl, rfl⟩
  go_wp2_with fail
  go_ret
  exact ⟨rfl, rfl⟩
theorem kids_yes {L x : Int} (h1 : 1 ≤ L) (h2 : L ≤ 48) (h3 : 1 ≤ x) (h4 : x < pw L) (w : World) :
    Calls Tryz.prog 126 #[.int .i64 L, .int .i64 x] w fun e w' => e = .returned (.tuple #[.int .i64 (2 * x), .int .i64 (2 * x + 1), .bool true]) ∧ w = w' := by
  have h := kids_c L x w
  unfold kidsF at h
  rw [if_pos ⟨right_mk h1 h2 h3 (by omega), h4⟩] at h
  exact h
theorem kids_no {L x : Int} (h : ¬ (1 ≤ L ∧ L ≤ 48 ∧ 1 ≤ x ∧ x < pw L)) (w : World) :
    Calls Tryz.prog 126 #[.int .i64 L, .int .i64 x] w fun e w' => e = .returned (.tuple #[.int .i64 0, .int .i64 0, .bool false]) ∧ w = w' := by
  have k := kids_c L x w
  unfold kidsF at k
  rw [if_neg (fun q => h ⟨(right_iff.1 q.1).1, (right_iff.1 q.1).2.1, (right_iff.1 q.1).2.2.1, q.2⟩)] at k
  exact k
theorem PoolAt.uni {w : World} {p : Nat} {kd L : Int} {l : List Nd} {F : Nat → Prop} (h : PoolAt w p kd L l F) : 1 ≤ L ∧ L ≤ 48 := by
  rcases h.two with k | k <;> omega
set_option maxRecDepth 100000 in
theorem fold_mass (p : Nat) (kd L x : Int) (l : List Nd) (F : Nat → Prop) (w : World) (h : PoolAt w p kd L l F) (hx1 : 1 ≤ x) (hx2 : x < pw L) :
    Calls Tryz.prog 136 #[.pointer (some ⟨p, 0, none⟩), .int .i64 x] w fun e w' => e = .returned (.tuple #[.int .i64 (pairS l x), .int .i64 (pairS l x + wt x l)]) ∧ Below w.heap.size w w' := by
  obtain ⟨hL1, hL2⟩ := h.uni
  have hp48 := pw_le48 hL2
  have hl := hide (pool_l p kd L l F w h)
  have hK := hide (fun W => kids_yes hL1 hL2 hx1 hx2 W)
  have hG := hide (fun y (hy : y ≤ 9223372036854775807) (W : World) (hW : Below w.heap.size w W) => pool_get p kd L y l F W (h.kept hW) hy)
  have s1 := wt_le_sum h.canon (2 * x)
  have s2 := wt_le_sum h.canon (2 * x + 1)
  have s3 := wt_le_sum h.canon x
  have n1 := wt_nonneg (2 * x) l h.canon.cntL
  have n2 := wt_nonneg (2 * x + 1) l h.canon.cntL
  have n3 := wt_nonneg x l h.canon.cntL
  have hs := h.sum
  unfold pairS
  clear h
  go_enter Tryz.func136, Tryz.ntmps136
  go_wp2_with fail
  refine Calls.mono hl.out ?_
  rintro e w1 ⟨rfl, hb1⟩
  have hb1 := hide hb1
  go_wp2_with fail
  refine Calls.mono (hK.out _) ?_
  rintro e w2 ⟨rfl, rfl⟩
  go_wp2_with fail
  refine Calls.mono (hG.out (2 * x) (by omega) _ hb1.out) ?_
  rintro e w2 ⟨rfl, hb2⟩
  have hb2 := hide (hb1.out.trans (hb2.mono hb1.out.size))
  go_wp2_with fail
  refine Calls.mono (hG.out (2 * x + 1) (by omega) _ hb2.out) ?_
  rintro e w3 ⟨rfl, hb3⟩
  have hb3 := hide (hb2.out.trans (hb3.mono hb2.out.size))
  go_wp2_with fail
  refine Calls.mono (hG.out x (by omega) _ hb3.out) ?_
  rintro e w4 ⟨rfl, hb4⟩
  have hb4 := hide (hb3.out.trans (hb4.mono hb3.out.size))
  go_wp2_with fail
  go_ret2
  exact ⟨rfl, hb4.out⟩
theorem fold_mass_no (p : Nat) (kd L x : Int) (l : List Nd) (F : Nat → Prop) (w : World) (h : PoolAt w p kd L l F) (hx : ¬ (1 ≤ x ∧ x < pw L)) :
    Calls Tryz.prog 136 #[.pointer (some ⟨p, 0, none⟩), .int .i64 x] w fun e w' => e = .returned (.tuple #[.int .i64 0, .int .i64 0]) ∧ Below w.heap.size w w' := by
  have hl := hide (pool_l p kd L l F w h)
  have hK := hide (fun W => kids_no (L := L) (x := x) (fun k => hx k.2.2) W)
  clear h hx
  go_enter Tryz.func136, Tryz.ntmps136
  go_wp2_with fail
  refine Calls.mono hl.out ?_
  rintro e w1 ⟨rfl, hb1⟩
  have hb1 := hide hb1
  go_wp2_with fail
  refine Calls.mono (hK.out _) ?_
  rintro e w2 ⟨rfl, rfl⟩
  go_wp2_with fail
  go_ret2
  exact ⟨rfl, hb1.out⟩
theorem fold_ready (p : Nat) (kd L m x : Int) (l : List Nd) (F : Nat → Prop) (w : World) (h : PoolAt w p kd L l F) :
    Calls Tryz.prog 116 #[.pointer (some ⟨p, 0, none⟩), .int .i64 x, .int .i64 m] w fun e w' => e = .returned (.bool (readyB L m l x)) ∧ Below w.heap.size w w' := by
  by_cases hx : 1 ≤ x ∧ x < pw L
  · have hM := hide (fold_mass p kd L x l F w h hx.1 hx.2)
    have hr : readyB L m l x = decide (0 < pairS l x ∧ pairS l x + wt x l ≤ m) := by
      unfold readyB
      rw [Bool.eq_iff_iff, decide_eq_true_eq, decide_eq_true_eq]
      exact ⟨fun k => k.2.2, fun k => ⟨hx.1, hx.2, k⟩⟩
    rw [hr]
    generalize pairS l x = u at *
    generalize u + wt x l = a at *
    clear h hr hx
    by_cases h1 : 0 < u
    · by_cases h2 : a ≤ m
      · rw [decide_eq_true ⟨h1, h2⟩]
        go_enter Tryz.func116, Tryz.ntmps116
        go_wp2_with fail
        refine Calls.mono hM.out ?_
        rintro e w1 ⟨rfl, hb1⟩
        go_wp2_with fail
        go_ret
        exact ⟨rfl, hb1⟩
      · rw [decide_eq_false (fun k => h2 k.2)]
        go_enter Tryz.func116, Tryz.ntmps116
        go_wp2_with fail
        refine Calls.mono hM.out ?_
        rintro e w1 ⟨rfl, hb1⟩
        go_wp2_with fail
        go_ret
        refine ⟨?_, hb1⟩
        show Ending.returned (.bool (decide (a ≤ m))) = _
        rw [decide_eq_false (by omega)]
    · rw [decide_eq_false (fun k => h1 k.1)]
      go_enter Tryz.func116, Tryz.ntmps116
      go_wp2_with fail
      refine Calls.mono hM.out ?_
      rintro e w1 ⟨rfl, hb1⟩
      go_wp2_with fail
      go_ret
      exact ⟨rfl, hb1⟩
  · have hM := hide (fold_mass_no p kd L x l F w h hx)
    have hr : readyB L m l x = false := by
      unfold readyB
      rw [decide_eq_false_iff_not]
      exact fun k => hx ⟨k.1, k.2.1⟩
    rw [hr]
    clear h hr hx
    go_enter Tryz.func116, Tryz.ntmps116
    go_wp2_with fail
    refine Calls.mono hM.out ?_
    rintro e w1 ⟨rfl, hb1⟩
    go_wp2_with fail
    go_ret
    exact ⟨rfl, hb1⟩
set_option maxRecDepth 100000 in
set_option maxHeartbeats 1000000 in
theorem fold_do (p : Nat) (kd L m x : Int) (l : List Nd) (F : Nat → Prop) (w : World) (h : PoolAt w p kd L l F) (hr : readyB L m l x = true) :
    Calls Tryz.prog 117 #[.pointer (some ⟨p, 0, none⟩), .int .i64 x] w fun e w' => (∃ z, e = .returned (.int .i64 z)) ∧ ∃ F', PoolAt w' p kd L (foldAt x l) F' ∧ Turn F w w' ∧ ∀ j, F' j → F j ∨ w.heap.size ≤ j := by
  obtain ⟨hx1, hx2, hpr, -⟩ := ready_iff.1 hr
  obtain ⟨hL1, hL2⟩ := h.uni
  have hp48 := pw_le48 hL2
  have hl := hide (pool_l p kd L l F w h)
  have hK := hide (fun W => kids_yes hL1 hL2 hx1 hx2 W)
  have hlf := len_fold h.canon hx1 hpr
  have hll := h.len
  have s1 := wt_le_sum h.canon (2 * x)
  have hsum := h.sum
  have e1 := sumL_del (2 * x) l
  have e2 := sumL_del (2 * x + 1) (del (2 * x) l)
  have ew : wt (2 * x + 1) (del (2 * x) l) = wt (2 * x + 1) l := by rw [wt_del, if_neg (by omega)]
  have hadd : addS x (pairS l x) (del (2 * x + 1) (del (2 * x) l)) = foldAt x l := by
    unfold addS foldAt
    rw [if_neg (by omega)]
  have n1 := wt_nonneg (2 * x) l h.canon.cntL
  have n2 := wt_nonneg (2 * x + 1) l h.canon.cntL
  have s2 := wt_le_sum h.canon (2 * x + 1)
  have hT1 := hide (fun (W : World) (hW : PoolAt W p kd L l F) => pool_take p kd L (2 * x) l F W hW (by omega))
  have hT2 := hide (fun (W : World) (hW : PoolAt W p kd L (del (2 * x) l) F) => pool_take p kd L (2 * x + 1) (del (2 * x) l) F W hW (by omega))
  rw [ew] at hT2
  have hA := hide (fun (W : World) (hW : PoolAt W p kd L (del (2 * x + 1) (del (2 * x) l)) F) => pool_add p kd L x (pairS l x) (del (2 * x + 1) (del (2 * x) l)) F W hW hx1 (by omega) (by omega) (by rw [e2, e1, ew]; unfold pairS; omega) (by rw [hadd]; omega))
  rw [hadd] at hA
  have hps : pairS l x = wt (2 * x) l + wt (2 * x + 1) l := rfl
  rw [hps] at hA hpr
  have hh := hide h
  clear h hr e1 e2 ew hadd hps
  generalize foldAt x l = l3 at *
  generalize del (2 * x + 1) (del (2 * x) l) = l2 at *
  generalize del (2 * x) l = l1 at *
  generalize wt (2 * x) l = u at *
  generalize wt (2 * x + 1) l = v at *
  go_enter Tryz.func117, Tryz.ntmps117
  go_wp2_with fail
  refine Calls.mono hl.out ?_
  rintro e w1 ⟨rfl, hb1⟩
  have hh1 := hide (hh.out.kept hb1)
  have ht1 := hide (Below.turn hb1 F)
  clear hb1
  go_wp2_with fail
  refine Calls.mono (hK.out _) ?_
  rintro e w2 ⟨rfl, rfl⟩
  go_wp2_with fail
  refine Calls.mono (hT1.out _ hh1.out) ?_
  rintro e w2 ⟨rfl, hq2, hq3⟩
  have hh2 := hide hq2
  have ht2 := hide (ht1.out.trans hq3 fun _ _ k => k)
  clear hq2 hq3
  go_wp2_with fail
  refine Calls.mono (hT2.out _ hh2.out) ?_
  rintro e w3 ⟨rfl, hq2, hq3⟩
  have hh3 := hide hq2
  have ht3 := hide (ht2.out.trans hq3 fun _ _ k => k)
  clear hq2 hq3
  go_wp2_with fail
  refine Calls.mono (hA.out _ hh3.out) ?_
  rintro e w4 ⟨rfl, F', hq1, hq2, hq3⟩
  have hq1 := hide hq1
  have hq2 := hide hq2
  have hq3 := hide hq3
  go_wp2_with fail
  go_ret
  refine ⟨⟨_, rfl⟩, F', hq1.out, ht3.out.trans hq2.out fun _ _ k => k, fun j hj => ?_⟩
  rcases hq3.out j hj with k | k
  · exact .inl k
  · have := ht3.out.size
    right; omega
end Go.Proofs.YtfjgpjgphdiliaaGreat
/- The iterator over a pool's nodes: (*pool.Pool).Each and its closure. By the prover of this repo. -/
namespace Go.Proofs.YtfjgpjgphdiliaaGreat
open Go.RowKit Go.Shelf
open TwigM RollM StoM

attribute [local go_sem] Oper.semAt_some

/-- A node of some universe, of some weight. -/
abbrev NdU := { x : Nd // 1 ≤ x.1 ∧ x.1 ≤ 562949953421312 ∧ 0 ≤ x.2 ∧ x.2 ≤ 72057594037927935 }
/-- A node, as it is yielded. -/
def encN (x : NdU) : Array Value := #[.int .i64 x.1.1, .int .i64 x.1.2]
def asU (l : List Nd) (h : ∀ x ∈ l, 1 ≤ x.1 ∧ x.1 ≤ 562949953421312 ∧ 0 ≤ x.2 ∧ x.2 ≤ 72057594037927935) : List NdU := l.pmap Subtype.mk h
theorem asU_map (l : List Nd) (h) : (asU l h).map (·.1) = l := by unfold asU; rw [List.map_pmap]; simp
theorem PoolAt.allU {w : World} {p : Nat} {kd L : Int} {l : List Nd} {F : Nat → Prop} (h : PoolAt w p kd L l F) : ∀ x ∈ l, 1 ≤ x.1 ∧ x.1 ≤ 562949953421312 ∧ 0 ≤ x.2 ∧ x.2 ≤ 72057594037927935 := fun x hx => by
  have h1 := h.inU x hx
  have h2 := h.canon.cnt x hx
  have h3 := wt_ge hx h.canon.cntL
  have h4 := wt_le_sum h.canon x.1
  have h5 := h.sum
  have h6 := pw_le48 h.uni.2
  omega
/-- Blocks of nodes stay as they are. -/
def KeepN (A B : World) : Prop := A.heap.size ≤ B.heap.size ∧ ∀ (k : Nat) cur fr, A.heap[k]? = some (Obj.cells cur 76 fr) → B.heap[k]? = some (Obj.cells cur 76 fr)
theorem KeepN.refl (A : World) : KeepN A A := ⟨Nat.le_refl _, fun _ _ _ h => h⟩
theorem KeepN.trans {A B C : World} (h : KeepN A B) (k : KeepN B C) : KeepN A C := ⟨Nat.le_trans h.1 k.1, fun j cur fr e => k.2 j cur fr (h.2 j cur fr e)⟩
theorem own_keepN {A B : World} {base n : Nat} {v : Value} {xs : List Value} (h : A.ownsRow base 76 2 v n xs) (k : KeepN A B) : B.ownsRow base 76 2 v n xs := by
  obtain ⟨h1, h2⟩ := h
  refine ⟨h1, ?_⟩
  rcases h2 with h2 | ⟨g, cap, cur, rfl, hb, hg, hr⟩
  · exact .inl h2
  · exact .inr ⟨g, cap, cur, rfl, hb, k.2 g _ _ hg, hr⟩
theorem below_keepN {A B : World} (h : Below A.heap.size A B) : KeepN A B := ⟨h.size, fun k cur fr e => by
  have hk : k < A.heap.size := (Array.getElem?_eq_some_iff.1 e).1
  rw [h.block k hk]; exact e⟩
theorem below_grown {A B : World} (h : Below A.heap.size A B) : A.grownBy B none := ⟨h.os, h.tape, h.output, h.size, fun k hk _ => h.block k hk⟩
theorem nd_at {w : World} {base : Nat} {v : Value} {l : List Nd} (h : w.ownsRow base 76 2 v l.length (ndv l)) {i : Nat} (hi : i < l.length) :
    ∃ g cap, v = .slice (some ⟨g, 0, none⟩) l.length cap ∧ g < w.heap.size ∧ w.cell? ⟨g, i * 2, none⟩ = some (.int .i64 l[i].1) ∧ w.cell? ⟨g, i * 2 + 1, none⟩ = some (.int .i64 l[i].2) := by
  obtain ⟨g, cap, rfl⟩ := own_pos h (by omega)
  have hd : l.getD i (0, 0) = l[i] := by rw [List.getD_eq_getElem?_getD, List.getElem?_eq_getElem hi]; rfl
  refine ⟨g, cap, rfl, (h.lt g rfl).2, ?_, ?_⟩
  · rw [h.cellAt (i * 2) (by omega), ndv_get l (i * 2) (by omega)]
    unfold ndc
    rw [if_pos (by omega), show i * 2 / 2 = i by omega, hd]
  · rw [h.cellAt (i * 2 + 1) (by omega), ndv_get l (i * 2 + 1) (by omega)]
    unfold ndc
    rw [if_neg (by omega), show (i * 2 + 1) / 2 = i by omega, hd]
set_option maxRecDepth 100000 in
set_option maxHeartbeats 1000000 in
theorem pool_each1 (n : Nat) (hn : 1 ≤ n) (lp bx p : Nat) (kd L : Int) (l : List Nd) (F : Nat → Prop) (U : List NdU) (hU : U.map (·.1) = l) (J Jx : List NdU → World → Prop) (W : World) (hJ : AbidesFrom W.heap.size J)
    (hY : ∀ pre x W, J pre W → pre.length < U.length → YieldAt Fence.wide (n - 1) Tryz.prog lp (encN x) W fun e W' =>
      (e = .returned (.bool true) ∧ J (pre ++ [x]) W' ∧ KeepN W W') ∨ (e = .returned (.bool false) ∧ Jx (pre ++ [x]) W'))
    (hp : W.cell? ⟨bx, 0, none⟩ = some (.pointer (some ⟨p, 0, none⟩))) (hP : PoolAt W p kd L l F) (h0 : J [] W) :
    CallsIn Fence.wide n Tryz.prog 140 #[.func (.yield lp) #[] #[], .pointer (some ⟨bx, 0, none⟩)] W fun e W' => (∃ v, e = .returned v) ∧
      ((∃ ys : List NdU, ys = U ∧ J ys W') ∨ (∃ pre : List NdU, pre <+: U ∧ Jx pre W')) := by
  have hS := hide (pool_snap p kd L l F W hP)
  have hll := hP.len
  clear hP
  have hlU : U.length = l.length := by rw [← hU, List.length_map]
  obtain ⟨m, hm⟩ : ∃ m, Hid (l.length = m) := ⟨_, rfl⟩
  rw [hm.out] at hll hS hlU
  replace hlU := hide hlU
  replace hJ := hide hJ
  replace h0 := hide h0
  refine callsIn_of_wp Tryz.func140 rfl trivial ?_ rfl
  simp only [Tryz.ntmps140, List.size_toArray, List.length_cons, List.length_nil, Nat.reduceAdd, Nat.reduceSub, Array.replicate_succ, Array.replicate_zero, List.push_toArray, List.append_toArray, List.nil_append, List.cons_append]
  gi_wp2_with (refine ⟨trivial, ?_⟩; gi_at_call 56; refine (callsIn_wide.2 hS.out).mono ?_; rintro e w1 ⟨v, rfl, hv, hb⟩; have hv2 := hide hv; have hb2 := hide hb; clear hb; obtain ⟨A, c, rfl, hA, hc1, hc2⟩ := own_form hv; clear hv)
  gi_loopw [8] (fun kv wr => ∃ (i : Nat), kv = .int .i64 i ∧ i ≤ m ∧ Hid (wr.ownsRow W.heap.size 76 2 (.slice A m c) m (ndv l)) ∧ Hid (J (U.take i) wr)) (fun kv _ => m - (intOf kv).toNat)
  case atStart => exact ⟨0, rfl, by omega, hv2, by rw [List.take_zero]; exact hJ.out _ _ _ none h0.out (below_grown hb2.out) (fun r e => by cases e)⟩
  case round =>
    obtain ⟨i, rfl, hi, hrow, hJs⟩ := hrel
    by_cases hlt : i < m
    · have hil : i < l.length := by rw [hm.out]; exact hlt
      have hro := hrow.out
      rw [← hm.out] at hro
      obtain ⟨g, cap, e1, hg, cx, cn⟩ := nd_at hro hil
      injection e1 with e1 e2 e3
      subst e1 e3
      have hiU : i < U.length := by rw [hlU.out]; exact hlt
      have hlq : l[i] = (U[i]).1 := by subst hU; rw [List.getElem_map]
      rw [hlq] at cx cn
      have hpre : Hid ((U.take i) ++ [U[i]] = U.take (i + 1)) := (List.take_succ_eq_append_getElem hiU).symm
      obtain ⟨fn, tmps, assign, body, hy, hR⟩ := hY (U.take i) U[i] (wr.alloc (.cells #[.int .i64 (U[i]).1.1, .int .i64 (U[i]).1.2] 76)) (hJ.out _ _ _ none hJs.out (World.grownBy_alloc _ _ none) (fun r e => by cases e)) (by rw [List.length_take]; omega)
      dsimp only [encN] at hy
      have hrow2 := hide (hrow.out.alloc (.cells #[.int .i64 (U[i]).1.1, .int .i64 (U[i]).1.2] 76))
      rw [hpre.out] at hR
      have hpf : Hid (U.take (i + 1) <+: U) := List.take_prefix (i + 1) U
      clear hpre hro hY hlq
      generalize U[i] = q at *
      obtain ⟨⟨x, cnt⟩, hq⟩ := q
      simp only at cx cn hy hR hrow2
      gi_wp2
      refine hR.mono ?_
      rintro e W3 (⟨rfl, hJ3, hk3⟩ | ⟨rfl, hJx3⟩)
      · have hJ3 := hide hJ3
        have hrow3 := hide (own_keepN hrow2.out hk3)
        clear hk3
        gi_wp2
        go_roundw
        case rel => exact ⟨i + 1, by go_num, by omega, hrow3, hJ3⟩
        case measure => simp [intOf]; omega
      · have hJx3 := hide hJx3
        gi_wp2
        refine bodyPost_ret (results_none rfl _ _ _) rfl ?_
        exact ⟨⟨_, rfl⟩, .inr ⟨_, hpf.out, hJx3.out⟩⟩
    · obtain rfl : i = m := by omega
      have hJl : Hid (J U wr) := by have := hJs.out; rwa [← hlU.out, List.take_length] at this
      clear hJs
      gi_wp2
      go_end0
      exact ⟨⟨_, rfl⟩, .inl ⟨U, rfl, hJl.out⟩⟩
/-- p.Each(): the receiver is boxed; the function value captures the box. -/
theorem pool_each (p : Nat) (w : World) : Calls Tryz.prog 125 #[.pointer (some ⟨p, 0, none⟩)] w fun e w' => e = .returned (.func (.func 140) #[] #[.pointer (some ⟨w.heap.size, 0, none⟩)]) ∧ w' = w.alloc (.cells #[.pointer (some ⟨p, 0, none⟩)] 48) := by
  go_enter Tryz.func125, Tryz.ntmps125
  go_wp2_with fail
  go_ret
  exact ⟨rfl, rfl⟩
/-- What p.Each() hands back goes over the pool's nodes, rising; or over some of them, where a round has said 'no more'. -/
theorem pool_stops (n : Nat) (hn : 1 ≤ n) (bx p : Nat) (kd L : Int) (l : List Nd) (F : Nat → Prop) (U : List NdU) (hU : U.map (·.1) = l) (w : World) (hbx : bx < w.heap.size) (hp : w.cell? ⟨bx, 0, none⟩ = some (.pointer (some ⟨p, 0, none⟩))) (hP : PoolAt w p kd L l F) :
    SeqStopsK Fence.wide n Tryz.prog 140 #[.pointer (some ⟨bx, 0, none⟩)] encN KeepN (fun ys => ys = U) (fun pre => pre <+: U) U.length w := fun lp J Jx W hW hJ _ hY h0 =>
  pool_each1 n hn lp bx p kd L l F U hU J Jx W hJ hY ((hW.cell (p := ⟨bx, 0, none⟩) hbx).trans hp) (hP.kept hW) h0
end Go.Proofs.YtfjgpjgphdiliaaGreat

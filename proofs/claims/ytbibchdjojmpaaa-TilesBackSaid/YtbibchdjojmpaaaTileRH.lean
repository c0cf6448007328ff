/- The walks of layer 5's reference, on: Right, Holds, Count. By the prover of this repo. -/
import Derived.Test.YtbibchdjojmpaaaTileRQ
namespace Go.Proofs.Ytbibchdjojmpaaa
open Go.RowKit
open TwigM TileM

theorem ris_u (L : Int) (W : World) : Calls Try.prog 41 #[.int .i64 L] W fun e w' => e = .returned (.bool (decide (1 ≤ L ∧ L ≤ 48))) ∧ W = w' := by
  by_cases h : 1 ≤ L ∧ L ≤ 48
  · rw [decide_eq_true h]; exact ris_yes L W h.1 h.2
  · rw [decide_eq_false h]; exact ris_no L W h

set_option maxRecDepth 100000 in
set_option maxHeartbeats 1000000 in
theorem ref05_right (L : Int) (A : Option Addr) (c : Nat) (l : List Int) (w : World) (hr : Rd w A l.length 1 (ic l)) (hl : l.length ≤ 10000) (hwf : ItWf l) :
    Calls Try.prog 27 #[.int .i64 L, .slice A l.length c] w fun e w' => e = .returned (.bool (allB L l && adj L l)) ∧ w = w' := by
  rw [right_same]
  have hU := hide (fun W => ris_u L W)
  generalize decide (1 ≤ L ∧ L ≤ 48) = u at *
  have hG : Hid ((rgo L (-1) (l.drop 0) && u) = (rgo L (-1) l && u)) := by show _ = _; rw [List.drop_zero]
  generalize (rgo L (-1) l && u) = G at *
  obtain ⟨n, hn⟩ : ∃ n, Hid (l.length = n) := ⟨_, rfl⟩
  have hrh := hide hr
  rw [hn.out] at hl ⊢
  have hwf := hide hwf
  clear hr
  go_enter Try.func27, Try.ntmps27
  go_wp2_with fail
  go_loop [5, 6] (fun last idx => ∃ (i : Nat) (x : Int), idx = .int .i64 i ∧ last = .int .i64 x ∧ i ≤ n ∧ -1 ≤ x ∧ x ≤ 281474976710656 ∧ Hid ((rgo L x (l.drop i) && u) = G)) (fun _ idx => n - (intOf idx).toNat)
  case atStart => exact ⟨0, -1, rfl, rfl, Nat.zero_le _, by omega, by omega, hG⟩
  case round =>
    clear hG
    obtain ⟨i, x, rfl, rfl, hin, hx1, hx2, hgo⟩ := hrel
    by_cases hlt : i < n
    · have hil : i < l.length := by rw [hn.out]; exact hlt
      obtain ⟨b, off, rfl, hbs, hc⟩ := it_at hrh.out hil
      have hw := hwf.out l[i] (List.getElem_mem hil)
      rw [List.drop_eq_getElem_cons hil, rgo] at hgo
      have hE := fun W => rends_c L l[i] W hw.2
      unfold endsF at hE
      generalize l[i] = t at *
      cases hrb : rightB L t
      · rw [hrb, if_neg (by decide)] at hE
        rw [hrb, Bool.false_and, Bool.false_and, Bool.false_and] at hgo
        replace hE := hide hE
        go_wp2_with (go_at_call 38; refine (hE.out _).mono ?_; rintro e w1 ⟨rfl, rfl⟩)
        go_ret
        exact ⟨by rw [← hgo.out]; rfl, rfl⟩
      · rw [hrb, if_pos rfl] at hE
        rw [hrb, Bool.true_and] at hgo
        have hR := right_iff.1 hrb
        have htN : Nd L t := ⟨hR.1, hR.2.1, hR.2.2.1, hR.2.2.2⟩
        have hnr := node_range htN
        have hle := lo_le_hi htN
        have hpw := pw_le48 hR.2.1
        change ∀ W : World, Calls _ _ _ _ fun e w' => e = .returned (.tuple #[.int .i64 (lo L t), .int .i64 (hi L t), .bool true]) ∧ W = w' at hE
        generalize lo L t = p at *
        generalize hi L t = q at *
        replace hE := hide hE
        by_cases hxp : x < p
        · rw [decide_eq_true hxp, Bool.true_and] at hgo
          go_wp2_with (go_at_call 38; refine (hE.out _).mono ?_; rintro e w1 ⟨rfl, rfl⟩)
          go_round
          case rel => exact ⟨i + 1, q, rfl, rfl, by omega, by omega, by omega, hgo⟩
          case measure => simp [intOf]; omega
        · rw [decide_eq_false hxp, Bool.false_and, Bool.false_and] at hgo
          go_wp2_with (go_at_call 38; refine (hE.out _).mono ?_; rintro e w1 ⟨rfl, rfl⟩)
          go_ret
          exact ⟨by rw [← hgo.out]; rfl, rfl⟩
    · have hd : l.drop i = [] := List.drop_of_length_le (by rw [hn.out]; omega)
      rw [hd, rgo, Bool.true_and] at hgo
      go_wp2_with (go_at_call 41; refine (hU.out _).mono ?_; rintro e w1 ⟨rfl, rfl⟩)
      go_ret
      exact ⟨by rw [← hgo.out]; rfl, rfl⟩

/-- Is a value held: as the document asks. -/
def heldR (x : Int) (r : Run) : Bool := decide (r.1 ≤ x ∧ x ≤ r.2)
def holdsR (L : Int) (l : List Int) (x : Int) : Bool := allB L l && (runL L l).any (heldR x)
set_option maxRecDepth 100000 in
set_option maxHeartbeats 1000000 in
theorem ref05_holds (L x : Int) (A : Option Addr) (c : Nat) (l : List Int) (w : World) (hr : Rd w A l.length 1 (ic l)) (hl : l.length ≤ 10000) (hwf : ItWf l) :
    Calls Try.prog 33 #[.int .i64 L, .slice A l.length c, .int .i64 x] w fun e w' => e = .returned (.bool (holdsR L l x)) ∧ Below w.heap.size w w' := by
  have hR := hide (ref05_runs L A c l w hr hl hwf)
  unfold holdsR
  obtain ⟨n, hn⟩ : ∃ n, Hid (l.length = n) := ⟨_, rfl⟩
  rw [hn.out] at hR hl ⊢
  generalize runL L l = R at *
  clear hr
  cases hq : allB L l
  · rw [hq] at hR
    rw [Bool.false_and]
    clear hq
    go_enter Try.func33, Try.ntmps33
    go_wp2_with (go_at_call 50; refine hR.out.mono ?_; rintro e w1 ⟨v1, rfl, hv1, hb1⟩; obtain ⟨Ar, cr, rfl, hr1, hr2, hr3, hr4⟩ := hv1; have hr4 := hide hr4; have hb1 := hide hb1)
    refine wp_loop_rounds 1 ?_
    rw [rounds_succ]
    by_cases h0 : R.length = 0
    · rw [h0]
      go_wp2_with fail
      go_ret
      exact ⟨rfl, hb1.out⟩
    · generalize R.length = m at *
      go_wp2_with fail
      go_ret
      exact ⟨rfl, hb1.out⟩
  · rw [hq] at hR
    rw [Bool.true_and]
    have hG : Hid ((R.drop 0).any (heldR x) = R.any (heldR x)) := by show _ = _; rw [List.drop_zero]
    generalize R.any (heldR x) = G at *
    clear hq
    go_enter Try.func33, Try.ntmps33
    go_wp2_with (go_at_call 50; refine hR.out.mono ?_; rintro e w1 ⟨v1, rfl, hv1, hb1⟩; obtain ⟨Ar, cr, rfl, hr1, hr2, hr3, hr4⟩ := hv1; have hr4 := hide hr4; have hb1 := hide hb1)
    obtain ⟨m, hm⟩ : ∃ m, Hid (R.length = m) := ⟨_, rfl⟩
    rw [hm.out] at hr1 hr2 ⊢
    unfold maxLen at hr3
    go_loop [9] (fun idx => ∃ (i : Nat), idx = .int .i64 i ∧ i ≤ m ∧ Hid ((R.drop i).any (heldR x) = G)) (fun idx => m - (intOf idx).toNat)
    case atStart => exact ⟨0, rfl, Nat.zero_le _, hG⟩
    case round =>
      clear hR hG
      obtain ⟨i, rfl, hin, hgo⟩ := hrel
      by_cases hlt : i < m
      · have hil : i < R.length := by rw [hm.out]; exact hlt
        obtain ⟨b, off, rfl, hbs, c0, c1⟩ := rn_at hr4.out hil
        rw [List.drop_eq_getElem_cons hil, List.any_cons] at hgo
        generalize R[i] = r at *
        obtain ⟨p, q⟩ := r
        simp only [] at c0 c1
        unfold heldR at hgo
        by_cases h1 : p ≤ x
        · by_cases h2 : x ≤ q
          · rw [decide_eq_true ⟨h1, h2⟩, Bool.true_or] at hgo
            go_wp2_with fail
            go_ret
            exact ⟨by rw [← hgo.out]; rfl, hb1.out⟩
          · rw [decide_eq_false (fun k => h2 k.2), Bool.false_or] at hgo
            go_wp2_with fail
            go_round
            case rel => exact ⟨i + 1, rfl, by omega, hgo⟩
            case measure => simp [intOf]; omega
        · rw [decide_eq_false (fun k => h1 k.1), Bool.false_or] at hgo
          go_wp2_with fail
          go_round
          case rel => exact ⟨i + 1, rfl, by omega, hgo⟩
          case measure => simp [intOf]; omega
      · have hd : R.drop i = [] := List.drop_of_length_le (by rw [hm.out]; omega)
        rw [hd] at hgo
        go_wp2_with fail
        go_ret
        exact ⟨by rw [← hgo.out]; rfl, hb1.out⟩

theorem sum_nonneg : ∀ R : List Run, (∀ r ∈ R, r.1 ≤ r.2) → 0 ≤ (R.map fun r => r.2 - r.1 + 1).sum
  | [], _ => by simp
  | r :: R, h => by
    have h1 := sum_nonneg R (fun x hx => h x (by simp [hx]))
    have h2 := h r (by simp)
    rw [List.map_cons, List.sum_cons]; omega
set_option maxRecDepth 100000 in
set_option maxHeartbeats 1000000 in
theorem ref05_count (L : Int) (A : Option Addr) (c : Nat) (l : List Int) (w : World) (hr : Rd w A l.length 1 (ic l)) (hl : l.length ≤ 10000) (hwf : ItWf l) :
    Calls Try.prog 31 #[.int .i64 L, .slice A l.length c] w fun e w' => e = .returned (nb (countF L l)) ∧ Below w.heap.size w w' := by
  have hR := hide (ref05_runs L A c l w hr hl hwf)
  have hrl := runsGo_length L l []
  obtain ⟨n, hn⟩ : ∃ n, Hid (l.length = n) := ⟨_, rfl⟩
  cases hq : allB L l
  · have e : countF L l = (0, false) := by unfold countF; rw [hq]; rfl
    rw [e]
    rw [hq, hn.out] at hR
    rw [hn.out]
    clear e hq hr
    go_enter Try.func31, Try.ntmps31
    go_wp2_with (go_at_call 50; refine hR.out.mono ?_; rintro e w1 ⟨v1, rfl, hv1, hb1⟩; have hv1 := hide hv1; have hb1 := hide hb1)
    go_ret2
    exact ⟨rfl, hb1.out⟩
  · obtain ⟨hL1, hL2, hN⟩ := nd_of_all hq
    have e : countF L l = (((runsGo L [] l).map fun r => r.2 - r.1 + 1).sum, true) := by unfold countF; rw [hq, if_pos rfl, joinR_sz hL1 hL2 hN]
    have hok := runs_ok hN
    have hsz := both_sz hL1 hL2 hN
    have hs0 := sz_nonneg _ (restT_canon hL1 hL2 hN).nd
    rw [joinR_sz hL1 hL2 hN] at hsz
    have hpw2 := pw_le48 hL2
    rw [e]
    rw [hq, hn.out, runL_ok hq] at hR
    generalize runsGo L [] l = R at *
    have hG : Hid (0 + ((R.drop 0).map fun r => r.2 - r.1 + 1).sum = (R.map fun r => r.2 - r.1 + 1).sum) := by show _ = _; rw [List.drop_zero, Int.zero_add]
    have ht : (R.map fun r => r.2 - r.1 + 1).sum ≤ 281474976710656 := by omega
    generalize (R.map fun r => r.2 - r.1 + 1).sum = tot at *
    have hI := hide hok.2.2
    have hle := hide hok.1.le
    rw [hn.out] at hl hrl ⊢
    rw [List.length_nil] at hrl
    clear hq hr hok hN e hsz hs0
    go_enter Try.func31, Try.ntmps31
    go_wp2_with (go_at_call 50; refine hR.out.mono ?_; rintro e w1 ⟨v1, rfl, hv1, hb1⟩; obtain ⟨Ar, cr, rfl, hr1, hr2, hr3, hr4⟩ := hv1; have hr4 := hide hr4; have hb1 := hide hb1)
    obtain ⟨m, hm⟩ : ∃ m, Hid (R.length = m) := ⟨_, rfl⟩
    rw [hm.out] at hrl hr1 hr2 ⊢
    go_loopw [8, 9] (fun s idx wr => ∃ (i : Nat) (q : Int), idx = .int .i64 i ∧ s = .int .i64 q ∧ i ≤ m ∧ 0 ≤ q ∧ Hid (q + ((R.drop i).map fun r => r.2 - r.1 + 1).sum = tot) ∧ Below w1.heap.size w1 wr) (fun _ idx _ => m - (intOf idx).toNat)
    case atStart => exact ⟨0, 0, rfl, rfl, Nat.zero_le _, Int.le_refl _, hG, Below.refl _ _⟩
    case round =>
      clear hR hG
      obtain ⟨i, s, rfl, rfl, hin, hs, hgo, hbel⟩ := hrel
      by_cases hlt : i < m
      · have hil : i < R.length := by rw [hm.out]; exact hlt
        obtain ⟨b, off, rfl, hbs, c0, c1⟩ := rn_at (hr4.out.of_below (Nat.le_refl _) hbel) hil
        have hI2 := hI.out R[i] (List.getElem_mem hil)
        have hle2 := hle.out R[i] (List.getElem_mem hil)
        have hs2 := sum_nonneg (R.drop (i + 1)) (fun r hr => hle.out r (List.mem_of_mem_drop hr))
        rw [List.drop_eq_getElem_cons hil, List.map_cons, List.sum_cons] at hgo
        generalize R[i] = r at *
        obtain ⟨p, q⟩ := r
        simp only [] at c0 c1 hI2 hle2 hgo
        have hgo2 : Hid ((s + q - p + 1) + ((R.drop (i + 1)).map fun r => r.2 - r.1 + 1).sum = tot) := by show _ = _; have := hgo.out; omega
        have hsb : s + q - p + 1 ≤ tot := by have := hgo2.out; omega
        have hbel := hide hbel
        clear hgo hs2
        go_wp2_with fail
        go_quiet (fail)
        go_wp2_with fail
        go_roundw
        case rel => exact ⟨i + 1, s + q - p + 1, rfl, rfl, by omega, by omega, hgo2, below_drewN hbel.out _⟩
        case measure => simp [intOf]; omega
      · have hd : R.drop i = [] := List.drop_of_length_le (by rw [hm.out]; omega)
        rw [hd, List.map_nil, List.sum_nil, Int.add_zero] at hgo
        have hbel := hide hbel
        go_wp2_with fail
        go_ret2
        exact ⟨by rw [← hgo.out]; rfl, hb1.out.trans (hbel.out.mono hb1.out.size)⟩
end Go.Proofs.Ytbibchdjojmpaaa

/- The walks of layer 27, on: Less, Apart, Union, the reference's With, Less, Of, List; the chapter's example. By the prover of this repo. -/
import Derived.Test.YtlnbglpddpgooaaDoorTextW
namespace Go.Proofs.YtlnbglpddpgooaaDoor
open Go.RowKit

theorem ref27_with (s i : Int) (w : World) (h0 : 0 ≤ s) (h1 : s < 18446744073709551616) : Calls Tryd.prog 13 #[.int .u64 s, .int .i64 i] w fun e w' => e = .returned (.int .u64 (withF s i)) ∧ w = w' := by
  have hI := fun W => ref27_is i W
  have hH := fun W => ref27_has s i W h0 h1
  have hbd := with_bd s i h0 h1
  unfold withF at *
  by_cases h : 0 ≤ i ∧ i < 48
  · rw [decide_eq_true h] at hI
    cases hh : hasF s i
    · rw [hh] at hH
      rw [if_pos ⟨h, rfl⟩]
      rw [if_pos ⟨h, hh⟩] at hbd
      have hB := fun W => ref27_bit i W h.1 (by omega)
      have hp0 : (0 : Int) ≤ 2 ^ i.toNat := by rw [pow_i]; exact Int.natCast_nonneg _
      generalize (2 : Int) ^ i.toNat = p at *
      replace hI := hide hI
      replace hH := hide hH
      replace hB := hide hB
      clear h hh
      go_enter Tryd.func13, Tryd.ntmps13
      go_wp2_with (first
        | (go_at_call 33; refine (hI.out _).mono ?_; rintro e w1 ⟨rfl, rfl⟩)
        | (go_at_call 23; refine (hH.out _).mono ?_; rintro e w1 ⟨rfl, rfl⟩)
        | (go_at_call 29; refine (hB.out _).mono ?_; rintro e w1 ⟨rfl, rfl⟩))
      go_ret
      exact ⟨rfl, rfl⟩
    · rw [hh] at hH
      rw [if_neg (fun k => by cases k.2)]
      replace hI := hide hI
      replace hH := hide hH
      clear h hh hbd
      go_enter Tryd.func13, Tryd.ntmps13
      go_wp2_with (first
        | (go_at_call 33; refine (hI.out _).mono ?_; rintro e w1 ⟨rfl, rfl⟩)
        | (go_at_call 23; refine (hH.out _).mono ?_; rintro e w1 ⟨rfl, rfl⟩))
      go_ret
      exact ⟨rfl, rfl⟩
  · rw [decide_eq_false h] at hI
    rw [if_neg (fun k => h k.1)]
    replace hI := hide hI
    clear h hbd hH
    go_enter Tryd.func13, Tryd.ntmps13
    go_wp2_with (go_at_call 33; refine (hI.out _).mono ?_; rintro e w1 ⟨rfl, rfl⟩)
    go_ret
    exact ⟨rfl, rfl⟩

/-- A set without a sensor. -/
theorem less_bits (s : Nat) (i : Int) (h1 : s < 18446744073709551616) : bits .andNot .u64 (s : Int) (oneF i) = lessF s i := by
  unfold lessF oneF
  by_cases h : 0 ≤ i ∧ i < 48
  · rw [if_pos h, has_nat s i h.1 h.2, pow_i]
    have hp := pow48 i h.2
    obtain ⟨c, hc, _, hj⟩ := andNot_u64 s (2 ^ i.toNat) h1 (by omega)
    rw [hc]
    cases hb : s.testBit i.toNat
    · rw [if_neg (by decide)]
      have : c = s := Nat.eq_of_testBit_eq fun j => by
        rw [hj, Nat.testBit_two_pow]
        by_cases e : i.toNat = j
        · subst e; rw [hb]; rfl
        · simp [e]
      rw [this]
    · rw [if_pos rfl]
      have hle := Nat.ge_two_pow_of_testBit hb
      have e2 : c ||| 2 ^ i.toNat = s := Nat.eq_of_testBit_eq fun j => by
        rw [Nat.testBit_or, hj, Nat.testBit_two_pow]
        by_cases e : i.toNat = j
        · subst e; rw [hb]; simp
        · simp [e]
      have e3 : c / 2 ^ i.toNat % 2 ≠ 1 := fun k => by
        have : c.testBit i.toNat = true := by rw [Nat.testBit_eq_decide_div_mod_eq]; simpa using k
        rw [hj, Nat.testBit_two_pow] at this
        simp at this
      rw [or_bit, if_neg e3] at e2
      omega
  · rw [if_neg h]
    have hf : hasF s i = false := by unfold hasF; exact decide_eq_false fun k => h ⟨k.1, k.2.1⟩
    rw [hf, if_neg (by decide)]
    obtain ⟨c, hc, _, hj⟩ := andNot_u64 s 0 h1 (by omega)
    rw [show ((0 : Nat) : Int) = 0 from rfl] at hc
    rw [hc]
    have : c = s := Nat.eq_of_testBit_eq fun j => by rw [hj]; simp
    rw [this]
theorem crew_less (s : Nat) (i : Int) (w : World) (h1 : s < 18446744073709551616) : Calls Tryd.prog 14 #[.int .u64 s, .int .i64 i] w fun e w' => e = .returned (.int .u64 (lessF s i)) ∧ w = w' := by
  have hb := less_bits s i h1
  have hO := fun W => crew_one i W
  generalize oneF i = o at hb hO
  generalize lessF s i = r at hb ⊢
  replace hb := hide hb
  replace hO := hide hO
  go_enter Tryd.func14, Tryd.ntmps14
  go_wp2_with (go_at_call 32; refine (hO.out _).mono ?_; rintro e w1 ⟨rfl, rfl⟩)
  go_ret
  exact ⟨ret_congr (int_congr hb.out), rfl⟩
theorem ref27_less (s : Nat) (i : Int) (w : World) (h1 : s < 18446744073709551616) : Calls Tryd.prog 15 #[.int .u64 s, .int .i64 i] w fun e w' => e = .returned (.int .u64 (lessF s i)) ∧ w = w' := by
  have hH := fun W => ref27_has (s : Int) i W (by omega) (by omega)
  unfold lessF
  cases hh : hasF (s : Int) i
  · rw [hh] at hH
    rw [if_neg (by decide)]
    replace hH := hide hH
    clear hh
    go_enter Tryd.func15, Tryd.ntmps15
    go_wp2_with (go_at_call 23; refine (hH.out _).mono ?_; rintro e w1 ⟨rfl, rfl⟩)
    go_ret
    exact ⟨rfl, rfl⟩
  · rw [hh] at hH
    rw [if_pos rfl]
    have h : 0 ≤ i ∧ i < 48 := by unfold hasF at hh; have := of_decide_eq_true hh; exact ⟨this.1, this.2.1⟩
    have hB := fun W => ref27_bit i W h.1 (by omega)
    rw [has_nat s i h.1 h.2] at hh
    have hle := Nat.ge_two_pow_of_testBit hh
    rw [pow_i] at hB ⊢
    generalize 2 ^ i.toNat = p at *
    replace hH := hide hH
    replace hB := hide hB
    clear hh h
    go_enter Tryd.func15, Tryd.ntmps15
    go_wp2_with (first
      | (go_at_call 23; refine (hH.out _).mono ?_; rintro e w1 ⟨rfl, rfl⟩)
      | (go_at_call 29; refine (hB.out _).mono ?_; rintro e w1 ⟨rfl, rfl⟩))
    go_ret
    exact ⟨rfl, rfl⟩

/-- Whether none of a set is in another one. -/
def apartF (s t : Int) : Bool := bits .and .u64 s t == 0
theorem crew_apart (s t : Int) (w : World) : Calls Tryd.prog 17 #[.int .u64 s, .int .u64 t] w fun e w' => e = .returned (.bool (apartF s t)) ∧ w = w' := by
  go_enter Tryd.func17, Tryd.ntmps17
  go_wp2
  go_ret
  exact ⟨rfl, rfl⟩
theorem apart_iff (a b : Nat) (ha : a < 18446744073709551616) (hb : b < 18446744073709551616) : apartF (a : Int) (b : Int) = true ↔ ∀ j, ¬ (a.testBit j = true ∧ b.testBit j = true) := by
  unfold apartF
  rw [and_u64 a b ha hb, beq_iff_eq]
  constructor
  · intro h j k
    have h0 : a &&& b = 0 := by omega
    have := (nat_zero_iff _).1 h0 j
    rw [Nat.testBit_and, k.1, k.2] at this
    cases this
  · intro h
    have h0 : a &&& b = 0 := (nat_zero_iff _).2 fun j => by
      rw [Nat.testBit_and]
      cases h1 : a.testBit j <;> cases h2 : b.testBit j <;> simp_all
    omega

theorem ofGo_snd {s : Int} : ∀ l : List Int, ofGo s l = ofGo s l := fun _ => rfl
set_option maxRecDepth 100000 in
theorem ref27_of (a : Option Addr) (n c : Nat) (l : List Int) (w : World) (hl : l.length = n) (hr : Rd w a n 1 (fun i => .int .i64 (l.getD i 0))) (hn : n ≤ 1000000) :
    Calls Tryd.prog 19 #[.slice a n c] w fun e w' => e = .returned (.tuple #[.int .u64 (ofF l).1, .bool (ofF l).2]) ∧ w = w' := by
  unfold ofF
  generalize hG : ofGo 0 l = G
  replace hG := hide hG
  replace hl := hide hl
  go_enter Tryd.func19, Tryd.ntmps19
  go_wp2_with fail
  go_loop [4, 5] (fun s k => ∃ (t : Int) (i : Nat), i ≤ n ∧ 0 ≤ t ∧ t < 18446744073709551616 ∧ s = .int .u64 t ∧ k = .int .i64 i ∧ Hid (ofGo t (l.drop i) = G)) (fun _ k => n - (intOf k).toNat)
  case atStart => exact ⟨0, 0, by omega, by omega, by omega, rfl, rfl, by show _ = _; rw [List.drop_zero, hG.out]⟩
  case round =>
    obtain ⟨t, i, hi, ht0, ht1, rfl, rfl, hgo⟩ := hrel
    by_cases hlt : i < n
    · obtain ⟨b, off, rfl, hb, hc⟩ := hr (by omega)
      have hc1 : w.cell? ⟨b, off + i, none⟩ = some (.int .i64 (l.getD i 0)) := hc i (by omega)
      have hdrop : l.drop i = l.getD i 0 :: l.drop (i + 1) := by
        have h2 : i < l.length := by rw [hl.out]; exact hlt
        rw [List.drop_eq_getElem_cons h2]
        simp [h2]
      rw [hdrop] at hgo
      clear hdrop hc
      generalize l.getD i 0 = x at hc1 hgo
      have hI := fun W => ref27_is x W
      by_cases hx : 0 ≤ x ∧ x < 48
      · have hgo2 : Hid (ofGo (withF t x) (l.drop (i + 1)) = G) := by rw [← hgo.out]; show _ = ofGo t (_ :: _); rw [ofGo, if_pos hx]
        have hbd := with_bd t x ht0 ht1
        have hW := fun W => ref27_with t x W ht0 ht1
        generalize withF t x = t2 at hgo2 hbd hW
        replace hW := hide hW
        rw [decide_eq_true hx] at hI
        replace hI := hide hI
        obtain ⟨hx0, hx1⟩ := hx
        go_wp2_with (first | (go_at_call 33; refine (hI.out _).mono ?_; rintro e w1 ⟨rfl, rfl⟩) | (go_at_call 13; refine (hW.out _).mono ?_; rintro e w1 ⟨rfl, rfl⟩))
        go_round
        case rel => exact ⟨t2, i + 1, by omega, by omega, by omega, rfl, by go_num, hgo2⟩
        case measure => simp [intOf]; omega
      · have hres : Hid ((0, false) = G) := by rw [← hgo.out]; show _ = ofGo t (_ :: _); rw [ofGo, if_neg hx]
        rw [decide_eq_false hx] at hI
        replace hI := hide hI
        clear hx
        go_wp2_with (go_at_call 33; refine (hI.out _).mono ?_; rintro e w1 ⟨rfl, rfl⟩)
        go_ret2
        exact ⟨by rw [← hres.out]; rfl, rfl⟩
    · have hres : Hid ((t, true) = G) := by rw [← hgo.out, List.drop_of_length_le (by rw [hl.out]; omega)]; rfl
      go_wp2_with fail
      go_ret2
      exact ⟨by rw [← hres.out]; rfl, rfl⟩
end Go.Proofs.YtlnbglpddpgooaaDoor

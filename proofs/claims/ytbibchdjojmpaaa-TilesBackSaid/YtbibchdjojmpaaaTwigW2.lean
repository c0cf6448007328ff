/- The walks of layer 2, on: twig.Above, Meet, Graft, Prune, each once, by what it computes. By the prover of this repo. -/
import Derived.Test.YtbibchdjojmpaaaTwigW
namespace Go.Proofs.Ytbibchdjojmpaaa
open Go.RowKit
open TwigM

theorem above_deep (a b : Int) (w : World) (ha : 1 ≤ a) (ha1 : a ≤ 9223372036854775807) (hb : 1 ≤ b) (hb1 : b ≤ 9223372036854775807) :
    Calls Try.prog 49 #[.int .i64 a, .int .i64 b] w fun e w' => e = .returned (.bool (aboveB a b)) ∧ w = w' := by
  have hd0 := lg_nonneg a
  have hd1 := lg_le62 ha ha1
  have he0 := lg_nonneg b
  have he1 := lg_le62 hb hb1
  by_cases h : lg a ≤ lg b
  · have hq : 0 ≤ b / pw (lg b - lg a) ∧ b / pw (lg b - lg a) ≤ b := ⟨Int.ediv_nonneg (by omega) (by have := pw_pos (lg b - lg a); omega), Int.ediv_le_self _ (by omega)⟩
    by_cases h2 : b / pw (lg b - lg a) = a
    · have hA : Hid (aboveB a b = true) := decide_eq_true ⟨ha, hb, h, h2⟩
      generalize hd : lg a = d at *
      have hD := hide hd
      clear hd
      generalize he : lg b = f at *
      have hE := hide he
      clear he
      have hp : (2 : Int) ^ (f - d).toNat = pw (f - d) := rfl
      go_enter Try.func49, Try.ntmps49
      go_wp2_with fail
      refine (depth_yes a _ ha ha1).mono ?_
      rw [hD.out]
      rintro e w' ⟨rfl, rfl⟩
      go_wp2_with fail
      refine (depth_yes b _ hb hb1).mono ?_
      rw [hE.out]
      rintro e w' ⟨rfl, rfl⟩
      go_wp2_with fail
      go_ret
      exact ⟨by rw [hA.out]; rfl, rfl⟩
    · have hA : Hid (aboveB a b = false) := decide_eq_false fun k => h2 k.2.2.2
      generalize hd : lg a = d at *
      have hD := hide hd
      clear hd
      generalize he : lg b = f at *
      have hE := hide he
      clear he
      have hp : (2 : Int) ^ (f - d).toNat = pw (f - d) := rfl
      generalize hx : b / pw (f - d) = q at *
      have hX := hide hx
      have h3 : (q == a) = false := beq_eq_false_iff_ne.2 h2
      clear h2
      go_enter Try.func49, Try.ntmps49
      go_wp2_with fail
      refine (depth_yes a _ ha ha1).mono ?_
      rw [hD.out]
      rintro e w' ⟨rfl, rfl⟩
      go_wp2_with fail
      refine (depth_yes b _ hb hb1).mono ?_
      rw [hE.out]
      rintro e w' ⟨rfl, rfl⟩
      go_wp2_with fail
      go_ret
      exact ⟨by rw [hA.out]; rfl, rfl⟩
  · have hA : Hid (aboveB a b = false) := decide_eq_false fun k => h k.2.2.1
    generalize hd : lg a = d at *
    have hD := hide hd
    clear hd
    generalize he : lg b = f at *
    have hE := hide he
    clear he
    go_enter Try.func49, Try.ntmps49
    go_wp2_with fail
    refine (depth_yes a _ ha ha1).mono ?_
    rw [hD.out]
    rintro e w' ⟨rfl, rfl⟩
    go_wp2_with fail
    refine (depth_yes b _ hb hb1).mono ?_
    rw [hE.out]
    rintro e w' ⟨rfl, rfl⟩
    go_wp2_with fail
    go_ret
    exact ⟨by rw [hA.out]; rfl, rfl⟩
theorem above_c (a b : Int) (w : World) (ha1 : a ≤ 9223372036854775807) (hb1 : b ≤ 9223372036854775807) :
    Calls Try.prog 49 #[.int .i64 a, .int .i64 b] w fun e w' => e = .returned (.bool (aboveB a b)) ∧ w = w' := by
  by_cases ha : 1 ≤ a
  · by_cases hb : 1 ≤ b
    · exact above_deep a b w ha ha1 hb hb1
    · have hA : Hid (aboveB a b = false) := decide_eq_false fun k => hb k.2.1
      go_enter Try.func49, Try.ntmps49
      go_wp2_with fail
      refine (depth_yes a _ ha ha1).mono ?_
      rintro e w' ⟨rfl, rfl⟩
      go_wp2_with fail
      refine (depth_no b _ (by omega)).mono ?_
      rintro e w' ⟨rfl, rfl⟩
      go_wp2_with fail
      go_ret
      exact ⟨by rw [hA.out]; rfl, rfl⟩
  · have hA : Hid (aboveB a b = false) := decide_eq_false fun k => ha k.1
    go_enter Try.func49, Try.ntmps49
    go_wp2_with fail
    refine (depth_no a _ (by omega)).mono ?_
    rintro e w' ⟨rfl, rfl⟩
    go_wp2_with fail
    refine (depth_c b _ hb1).mono ?_
    rintro e w' ⟨rfl, rfl⟩
    go_wp2_with fail
    go_ret
    exact ⟨by rw [hA.out]; rfl, rfl⟩

end Go.Proofs.Ytbibchdjojmpaaa

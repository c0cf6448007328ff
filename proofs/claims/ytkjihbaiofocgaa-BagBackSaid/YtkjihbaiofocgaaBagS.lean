/- Layer 10: the library's search by halves, over the two tests that a bag hands it. By the prover of this repo. -/
import Derived.Test.YtkjihbaiofocgaaBagW
namespace Go.Proofs.Ytkjihbaiofocgaa
open Go.RowKit
open TwigM BagM

set_option maxRecDepth 100000 in
theorem search_lo (k n : Nat) (c1 c2 : Value) (w : World) (hk : k ≤ n) (hn : n ≤ 1000000)
    (hF : ∀ (h : Nat), h < n → ∀ W, Below w.heap.size w W → Calls Try.prog 51 #[.int .i64 h, c1, c2] W fun e w' => e = .returned (.bool (decide (k ≤ h))) ∧ Below W.heap.size W w') :
    Calls Try.prog 49 #[.int .i64 n, .func (.func 51) #[] #[c1, c2]] w fun e w' => e = .returned (.int .i64 k) ∧ Below w.heap.size w w' := by
  replace hF := hide hF
  go_enter Try.func49, Try.ntmps49
  go_wp2_with fail
  go_loopw [5, 6] (fun a b wr => ∃ (i j : Nat), i ≤ k ∧ k ≤ j ∧ j ≤ n ∧ a = .int .i64 i ∧ b = .int .i64 j ∧ Below w.heap.size w wr) (fun a b _ => (intOf b - intOf a).toNat)
  case atStart => exact ⟨0, n, by omega, by omega, by omega, rfl, rfl, Below.refl _ _⟩
  case round =>
    obtain ⟨i, j, hi, hj, hjn, rfl, rfl, hbel⟩ := hrel
    by_cases hlt : i < j
    · obtain ⟨m, hm⟩ : ∃ m, m = (i + j) / 2 := ⟨_, rfl⟩
      have hm1 : i ≤ m := by omega
      have hm2 : m < j := by omega
      have he : Hid (((i : Int) + (j : Int)) / 2 = (m : Int)) := by show _ = _; omega
      have hF1 := hF.out m (by omega) wr hbel
      rw [← he.out] at hF1
      replace hm := hide hm
      by_cases hkm : k ≤ m
      · rw [decide_eq_true hkm] at hF1
        replace hF1 := hide hF1
        go_wp2_with fail
        refine hF1.out.mono ?_
        rintro e w1 ⟨rfl, hb1⟩
        go_wp2_with fail
        go_roundw
        case rel => exact ⟨i, m, by omega, by omega, by omega, rfl, by rw [he.out], bthen hbel hb1⟩
        case measure => rw [he.out]; simp only [intOf]; omega
      · rw [decide_eq_false hkm] at hF1
        replace hF1 := hide hF1
        go_wp2_with fail
        refine hF1.out.mono ?_
        rintro e w1 ⟨rfl, hb1⟩
        go_wp2_with fail
        go_roundw
        case rel => exact ⟨m + 1, j, by omega, by omega, by omega, by rw [he.out]; go_num, rfl, bthen hbel hb1⟩
        case measure => rw [he.out]; simp only [intOf]; omega
    · obtain rfl : i = k := by omega
      have hj2 : ¬ (i : Int) < (j : Int) := by omega
      go_wp2_with fail
      go_ret
      exact ⟨rfl, hbel⟩
set_option maxRecDepth 100000 in
theorem search_hi (k n : Nat) (c1 c2 : Value) (w : World) (hk : k ≤ n) (hn : n ≤ 1000000)
    (hF : ∀ (h : Nat), h < n → ∀ W, Below w.heap.size w W → Calls Try.prog 50 #[.int .i64 h, c1, c2] W fun e w' => e = .returned (.bool (decide (k ≤ h))) ∧ Below W.heap.size W w') :
    Calls Try.prog 49 #[.int .i64 n, .func (.func 50) #[] #[c1, c2]] w fun e w' => e = .returned (.int .i64 k) ∧ Below w.heap.size w w' := by
  replace hF := hide hF
  go_enter Try.func49, Try.ntmps49
  go_wp2_with fail
  go_loopw [5, 6] (fun a b wr => ∃ (i j : Nat), i ≤ k ∧ k ≤ j ∧ j ≤ n ∧ a = .int .i64 i ∧ b = .int .i64 j ∧ Below w.heap.size w wr) (fun a b _ => (intOf b - intOf a).toNat)
  case atStart => exact ⟨0, n, by omega, by omega, by omega, rfl, rfl, Below.refl _ _⟩
  case round =>
    obtain ⟨i, j, hi, hj, hjn, rfl, rfl, hbel⟩ := hrel
    by_cases hlt : i < j
    · obtain ⟨m, hm⟩ : ∃ m, m = (i + j) / 2 := ⟨_, rfl⟩
      have hm1 : i ≤ m := by omega
      have hm2 : m < j := by omega
      have he : Hid (((i : Int) + (j : Int)) / 2 = (m : Int)) := by show _ = _; omega
      have hF1 := hF.out m (by omega) wr hbel
      rw [← he.out] at hF1
      replace hm := hide hm
      by_cases hkm : k ≤ m
      · rw [decide_eq_true hkm] at hF1
        replace hF1 := hide hF1
        go_wp2_with fail
        refine hF1.out.mono ?_
        rintro e w1 ⟨rfl, hb1⟩
        go_wp2_with fail
        go_roundw
        case rel => exact ⟨i, m, by omega, by omega, by omega, rfl, by rw [he.out], bthen hbel hb1⟩
        case measure => rw [he.out]; simp only [intOf]; omega
      · rw [decide_eq_false hkm] at hF1
        replace hF1 := hide hF1
        go_wp2_with fail
        refine hF1.out.mono ?_
        rintro e w1 ⟨rfl, hb1⟩
        go_wp2_with fail
        go_roundw
        case rel => exact ⟨m + 1, j, by omega, by omega, by omega, by rw [he.out]; go_num, rfl, bthen hbel hb1⟩
        case measure => rw [he.out]; simp only [intOf]; omega
    · obtain rfl : i = k := by omega
      have hj2 : ¬ (i : Int) < (j : Int) := by omega
      go_wp2_with fail
      go_ret
      exact ⟨rfl, hbel⟩
end Go.Proofs.Ytkjihbaiofocgaa

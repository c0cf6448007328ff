/- The walks of layer 2's reference: each function of the package dewpondref02, once, by what it computes. By the prover of this repo. -/
import Derived.Test.YtkjihbaiofocgaaTwigW
namespace Go.Proofs.Ytkjihbaiofocgaa
open Go.RowKit
open TwigM

theorem rpower (n : Int) (w : World) (h : n ≤ 62) : Calls Try.prog 35 #[.int .i64 n] w fun e w' => e = .returned (.int .i64 (pw n)) ∧ w = w' := by
  go_enter Try.func35, Try.ntmps35
  go_wp2
  go_loop [3, 4] (fun p i => ∃ k : Int, 0 ≤ k ∧ (k ≤ n ∨ k = 0) ∧ i = .int .i64 k ∧ p = .int .i64 (pw k)) (fun _ i => (n - intOf i).toNat)
  case atStart => exact ⟨0, by omega, .inr rfl, rfl, rfl⟩
  case round =>
    obtain ⟨k, hk0, hk, rfl, rfl⟩ := hrel
    have hp := pw_pos k
    have hs := hide (pw_succ hk0)
    by_cases hlt : k < n
    · have hp2 := pw_le62 (show k ≤ 61 + 1 by omega)
      have hp3 := pw_mono (show k ≤ 61 by omega)
      have h61 : pw 61 = 2305843009213693952 := rfl
      have hp4 : pw k ≤ 2305843009213693952 := by omega
      clear hk h61 hp3
      go_wp2
      go_round
      case rel => exact ⟨k + 1, by omega, .inl (by omega), rfl, int_congr (by rw [hs.out])⟩
      case measure => simp [intOf]; omega
    · have hk2 : Hid (pw k = pw n) := by
        show _ = _
        rcases hk with hk | hk
        · rw [show k = n by omega]
        · rw [hk, pw_zero, pw_neg (by omega)]
      clear hk
      go_wp2
      go_ret
      exact ⟨ret_congr (int_congr hk2.out), rfl⟩

end Go.Proofs.Ytkjihbaiofocgaa

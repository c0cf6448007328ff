/- The walks of layer 2's reference: each function of the package dewpondref02, once, by what it computes. By the prover of this repo. -/
import Derived.Test.YtbibchdjojmpaaaTwigW
namespace Go.Proofs.Ytbibchdjojmpaaa
open Go.RowKit
open TwigM

theorem ris_yes (l : Int) (w : World) (h1 : 1 ≤ l) (h2 : l ≤ 48) : Calls Try.prog 41 #[.int .i64 l] w fun e w' => e = .returned (.bool true) ∧ w = w' := by
  go_enter Try.func41, Try.ntmps41
  go_wp2
  go_ret
  exact ⟨rfl, rfl⟩
theorem ris_no (l : Int) (w : World) (h : ¬ (1 ≤ l ∧ l ≤ 48)) : Calls Try.prog 41 #[.int .i64 l] w fun e w' => e = .returned (.bool false) ∧ w = w' := by
  by_cases h1 : 1 ≤ l
  · have h2 : 48 < l := by omega
    clear h
    go_enter Try.func41, Try.ntmps41
    go_wp2
    go_ret
    exact ⟨ret_congr (bool_false (by omega)), rfl⟩
  · clear h
    go_enter Try.func41, Try.ntmps41
    go_wp2
    go_ret
    exact ⟨rfl, rfl⟩

theorem rpower (n : Int) (w : World) (h : n ≤ 62) : Calls Try.prog 42 #[.int .i64 n] w fun e w' => e = .returned (.int .i64 (pw n)) ∧ w = w' := by
  go_enter Try.func42, Try.ntmps42
  go_wp2
  go_loop [3, 4] (fun p i => ∃ k : Int, 0 ≤ k ∧ (k ≤ n ∨ k = 0) ∧ i = .int .i64 k ∧ p = .int .i64 (pw k)) (fun _ i => (n - intOf i).toNat)
  case atStart => exact ⟨0, by omega, .inr rfl, rfl, rfl⟩
  case round =>
    obtain ⟨k, hk0, hk, rfl, rfl⟩ := hrel
    have hp := pw_pos k
    have hs := hide (pw_succ hk0)
    by_cases hlt : k < n
    · have hp2 := pw_le62 (show k ≤ 61 + 1 by omega)
      have hp3 := pw_mono (show k ≤ 61 by omega)
      have h61 : pw 61 = 2305843009213693952 := rfl
      have hp4 : pw k ≤ 2305843009213693952 := by omega
      clear hk h61 hp3
      go_wp2
      go_round
      case rel => exact ⟨k + 1, by omega, .inl (by omega), rfl, int_congr (by rw [hs.out])⟩
      case measure => simp [intOf]; omega
    · have hk2 : Hid (pw k = pw n) := by
        show _ = _
        rcases hk with hk | hk
        · rw [show k = n by omega]
        · rw [hk, pw_zero, pw_neg (by omega)]
      clear hk
      go_wp2
      go_ret
      exact ⟨ret_congr (int_congr hk2.out), rfl⟩

theorem rdepth_yes (n : Int) (w : World) (h : 1 ≤ n) (h1 : n ≤ 9223372036854775807) :
    Calls Try.prog 60 #[.int .i64 n] w fun e w' => e = .returned (.tuple #[.int .i64 (lg n), .bool true]) ∧ w = w' := by
  have hd1 := lg_le62 h h1
  have hd0 := lg_nonneg n
  generalize hd : lg n = d at *
  have hD := hide hd
  clear hd
  go_enter Try.func60, Try.ntmps60
  go_wp2
  go_loop [0, 4] (fun x i => ∃ u k : Int, 1 ≤ u ∧ u ≤ n ∧ 0 ≤ k ∧ k ≤ d ∧ x = .int .i64 u ∧ i = .int .i64 k ∧ Hid (lg u + k = d)) (fun x _ => (intOf x).toNat)
  case atStart => exact ⟨n, 0, h, by omega, by omega, hd0, rfl, rfl, by show _ + 0 = _; rw [hD.out]; omega⟩
  case round =>
    obtain ⟨u, k, hu, hu1, hk0, hk1, rfl, rfl, hl⟩ := hrel
    by_cases hlt : 1 < u
    · have h2 := hide (lg_half (show 2 ≤ u by omega))
      have h3 := lg_nonneg (u / 2)
      have h4 : k + 1 ≤ d := by have := hl.out; have := h2.out; omega
      clear h3
      go_wp2
      go_round
      case rel => exact ⟨u / 2, k + 1, by omega, by omega, by omega, h4, rfl, rfl, by show _ = _; have := hl.out; have := h2.out; omega⟩
      case measure => simp [intOf]; omega
    · have hu2 : Hid (k = d) := by
        show _ = _
        have := hl.out
        rw [show u = 1 by omega, lg_one] at this
        omega
      go_wp2
      go_ret2
      exact ⟨ret2 (int_congr hu2.out) rfl, rfl⟩
theorem rdepth_no (n : Int) (w : World) (h : n < 1) :
    Calls Try.prog 60 #[.int .i64 n] w fun e w' => e = .returned (.tuple #[.int .i64 0, .bool false]) ∧ w = w' := by
  go_enter Try.func60, Try.ntmps60
  go_wp2
  go_ret2
  exact ⟨rfl, rfl⟩
theorem rdepth_c (n : Int) (w : World) (h1 : n ≤ 9223372036854775807) :
    Calls Try.prog 60 #[.int .i64 n] w fun e w' => e = .returned (nb (depthF n)) ∧ w = w' := by
  unfold depthF
  by_cases h : n < 1
  · rw [if_pos h]; exact rdepth_no n w h
  · rw [if_neg h]; exact rdepth_yes n w (by omega) h1

theorem rright_yes (l id : Int) (w : World) (hl : 1 ≤ l) (hl2 : l ≤ 48) (h0 : 1 ≤ id) (h1 : id < 2 * pw l) :
    Calls Try.prog 59 #[.int .i64 l, .int .i64 id] w fun e w' => e = .returned (.bool true) ∧ w = w' := by
  have hp2 := pw_le48 hl2
  have hd := (lg_le h0 (by omega)).2 h1
  have hb : id ≤ 9223372036854775807 := by omega
  clear h1 hp2
  go_enter Try.func59, Try.ntmps59
  go_wp2_with fail
  refine (rdepth_yes id _ h0 hb).mono ?_
  rintro e w' ⟨rfl, rfl⟩
  go_wp2_with fail
  refine (ris_yes l _ hl hl2).mono ?_
  rintro e w' ⟨rfl, rfl⟩
  go_wp2_with fail
  go_ret
  exact ⟨rfl, rfl⟩
theorem rright_no (l id : Int) (w : World) (hb : id ≤ 9223372036854775807) (h : ¬ (1 ≤ l ∧ l ≤ 48 ∧ 1 ≤ id ∧ id < 2 * pw l)) :
    Calls Try.prog 59 #[.int .i64 l, .int .i64 id] w fun e w' => e = .returned (.bool false) ∧ w = w' := by
  by_cases hl : 1 ≤ l ∧ l ≤ 48
  · by_cases h0 : 1 ≤ id
    · have hd : l < lg id := by
        refine Int.not_le.1 fun k => h ⟨hl.1, hl.2, h0, (lg_le h0 (by omega)).1 k⟩
      clear h
      generalize hd1 : lg id = d at *
      have hD := hide hd1
      clear hd1
      go_enter Try.func59, Try.ntmps59
      go_wp2_with fail
      refine (rdepth_yes id _ h0 hb).mono ?_
      rw [hD.out]
      rintro e w' ⟨rfl, rfl⟩
      go_wp2_with fail
      refine (ris_yes l _ hl.1 hl.2).mono ?_
      rintro e w' ⟨rfl, rfl⟩
      go_wp2_with fail
      go_ret
      exact ⟨ret_congr (bool_false (by omega)), rfl⟩
    · clear h
      go_enter Try.func59, Try.ntmps59
      go_wp2_with fail
      refine (rdepth_no id _ (by omega)).mono ?_
      rintro e w' ⟨rfl, rfl⟩
      go_wp2_with fail
      refine (ris_yes l _ hl.1 hl.2).mono ?_
      rintro e w' ⟨rfl, rfl⟩
      go_wp2_with fail
      go_ret
      exact ⟨rfl, rfl⟩
  · have hl := hide hl
    clear h
    go_enter Try.func59, Try.ntmps59
    go_wp2_with fail
    refine (rdepth_c id _ hb).mono ?_
    rintro e w' ⟨rfl, rfl⟩
    go_wp2_with fail
    refine (ris_no l _ hl.out).mono ?_
    rintro e w' ⟨rfl, rfl⟩
    go_wp2_with fail
    go_ret
    exact ⟨rfl, rfl⟩
theorem rright_c (l id : Int) (w : World) (hb : id ≤ 9223372036854775807) :
    Calls Try.prog 59 #[.int .i64 l, .int .i64 id] w fun e w' => e = .returned (.bool (rightB l id)) ∧ w = w' := by
  by_cases h : 1 ≤ l ∧ l ≤ 48 ∧ 1 ≤ id ∧ id < 2 * pw l
  · rw [show rightB l id = true from right_iff.2 h]; exact rright_yes l id w h.1 h.2.1 h.2.2.1 h.2.2.2
  · rw [show rightB l id = false from by simpa using mt right_iff.1 h]; exact rright_no l id w hb h
end Go.Proofs.Ytbibchdjojmpaaa

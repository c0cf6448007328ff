/- The walks of layer 2's reference, on: leaves, ends, ways up, and where they meet. By the prover of this repo. -/
import Derived.Test.YtbibchdjojmpaaaTwigR
namespace Go.Proofs.Ytbibchdjojmpaaa
open Go.RowKit
open TwigM

theorem rleaf_c (l x : Int) (w : World) (hx : x ≤ 9223372036854775807) :
    Calls Try.prog 43 #[.int .i64 l, .int .i64 x] w fun e w' => e = .returned (nb (leafF l x)) ∧ w = w' := by
  have hp1 := pw_pos l
  by_cases hl : 1 ≤ l ∧ l ≤ 48
  · obtain ⟨hl, hl2⟩ := hl
    have hp2 := pw_le48 hl2
    by_cases h0 : 0 ≤ x
    · by_cases h1 : x < pw l
      · have hF : Hid (leafF l x = (pw l + x, true)) := if_pos ⟨hl, hl2, h0, h1⟩
        go_enter Try.func43, Try.ntmps43
        go_wp2_with (first
          | (go_at_call 41; refine (ris_yes l _ hl hl2).mono ?_; rintro e w' ⟨rfl, rfl⟩)
          | (go_at_call 42; refine (rpower l _ (by omega)).mono ?_; rintro e w' ⟨rfl, rfl⟩))
        go_ret2
        exact ⟨by rw [hF.out]; rfl, rfl⟩
      · have hF : Hid (leafF l x = (0, false)) := if_neg fun k => h1 k.2.2.2
        go_enter Try.func43, Try.ntmps43
        go_wp2_with (first
          | (go_at_call 41; refine (ris_yes l _ hl hl2).mono ?_; rintro e w' ⟨rfl, rfl⟩)
          | (go_at_call 42; refine (rpower l _ (by omega)).mono ?_; rintro e w' ⟨rfl, rfl⟩))
        go_ret2
        exact ⟨by rw [hF.out]; rfl, rfl⟩
    · have hF : Hid (leafF l x = (0, false)) := if_neg fun k => h0 k.2.2.1
      go_enter Try.func43, Try.ntmps43
      go_wp2_with (first
        | (go_at_call 41; refine (ris_yes l _ hl hl2).mono ?_; rintro e w' ⟨rfl, rfl⟩)
        | (go_at_call 42; refine (rpower l _ (by omega)).mono ?_; rintro e w' ⟨rfl, rfl⟩))
      go_ret2
      exact ⟨by rw [hF.out]; rfl, rfl⟩
  · have hF : Hid (leafF l x = (0, false)) := if_neg fun k => hl ⟨k.1, k.2.1⟩
    have hl := hide hl
    go_enter Try.func43, Try.ntmps43
    go_wp2_with (go_at_call 41; refine (ris_no l _ hl.out).mono ?_; rintro e w' ⟨rfl, rfl⟩)
    go_ret2
    exact ⟨by rw [hF.out]; rfl, rfl⟩

set_option maxHeartbeats 400000 in
theorem rends_yes (l id : Int) (w : World) (hl : 1 ≤ l) (hl2 : l ≤ 48) (h0 : 1 ≤ id) (h1 : id < 2 * pw l) :
    Calls Try.prog 38 #[.int .i64 l, .int .i64 id] w fun e w' => e = .returned (.tuple #[.int .i64 (loF l id), .int .i64 (loF l id + pw (l - lg id) - 1), .bool true]) ∧ w = w' := by
  have hp2 := pw_le48 hl2
  have hp1 := pw_pos l
  have hd0 := lg_nonneg id
  have hd1 := (lg_le h0 (by omega)).2 h1
  have hbd := hide (fun k (a : 0 ≤ k) (b : k ≤ l - lg id) => ends_bound (l := l) (by omega) h0 h1 a b)
  have hend : Hid (id * pw (l - lg id) - pw l = loF l id) := by
    show _ = _
    unfold loF
    rw [Int.sub_mul, ← pw_add hd0 (by omega), show lg id + (l - lg id) = l by omega]
  have hb : id ≤ 9223372036854775807 := by omega
  generalize hd : lg id = d at *
  have hD := hide hd
  clear hd
  have H1 := hide h1
  go_enter Try.func38, Try.ntmps38
  go_wp2_with (first
    | (go_at_call 59; refine (rright_yes l id _ hl hl2 h0 H1.out).mono ?_; rintro e w' ⟨rfl, rfl⟩)
    | (go_at_call 60; refine (rdepth_yes id _ h0 hb).mono ?_; rw [hD.out]; rintro e w' ⟨rfl, rfl⟩))
  go_loop [7, 8, 9] (fun x y i => ∃ k u v : Int, 0 ≤ k ∧ d + k ≤ l ∧ i = .int .i64 (d + k) ∧ x = .int .i64 u ∧ y = .int .i64 v ∧ Hid (u = id * pw k) ∧ Hid (v = id * pw k + pw k - 1)) (fun _ _ i => (l - intOf i).toNat)
  case atStart => exact ⟨0, id, id, by omega, by omega, int_congr (by omega), rfl, rfl, by show _ = _; rw [pw_zero]; omega, by show _ = _; rw [pw_zero]; omega⟩
  case round =>
    obtain ⟨k, u, v, hk0, hk, rfl, rfl, rfl, hu, hv⟩ := hrel
    have b1 := hbd.out k hk0 (by omega)
    have b2 := pw_pos k
    have b3 : 0 ≤ id * pw k := Int.mul_nonneg (by omega) (by omega)
    have b4 : 0 ≤ u ∧ u ≤ 562949953421312 ∧ 0 ≤ v ∧ v ≤ 562949953421312 := by have := hu.out; have := hv.out; omega
    obtain ⟨b5, b6, b7, b8⟩ := b4
    clear b1 b2 b3
    by_cases hlt : d + k < l
    · have hs := hide (pw_succ hk0)
      go_wp2_with fail
      go_round
      case rel =>
        refine ⟨k + 1, 2 * u, 2 * v + 1, by omega, by omega, int_congr (by omega), rfl, rfl, ?_, ?_⟩
        · show _ = _
          rw [hs.out, hu.out, Int.mul_left_comm]
        · show _ = _
          rw [hs.out, hv.out, Int.mul_left_comm id]
          omega
      case measure => simp [intOf]; omega
    · have hk2 : k = l - d := by omega
      have hu2 : Hid (u - pw l = loF l id) := by show _ = _; rw [hu.out, hk2]; exact hend.out
      have hv2 : Hid (v - pw l = loF l id + pw (l - d) - 1) := by show _ = _; have := hend.out; rw [hv.out, hk2]; omega
      clear hk2
      go_wp2_with (go_at_call 42; refine (rpower l _ (by omega)).mono ?_; rintro e w' ⟨rfl, rfl⟩)
      go_ret3
      exact ⟨ret3 (int_congr hu2.out) (int_congr hv2.out) rfl, rfl⟩
theorem rends_c (l id : Int) (w : World) (hb : id ≤ 9223372036854775807) :
    Calls Try.prog 38 #[.int .i64 l, .int .i64 id] w fun e w' => e = .returned (nnb (endsF l id)) ∧ w = w' := by
  by_cases h : 1 ≤ l ∧ l ≤ 48 ∧ 1 ≤ id ∧ id < 2 * pw l
  · unfold endsF
    rw [if_pos (right_iff.2 h)]; exact rends_yes l id w h.1 h.2.1 h.2.2.1 h.2.2.2
  · have hF : Hid (endsF l id = (0, 0, false)) := if_neg (fun k => h (right_iff.1 k))
    have h := hide h
    go_enter Try.func38, Try.ntmps38
    go_wp2_with (go_at_call 59; refine (rright_no l id _ hb h.out).mono ?_; rintro e w' ⟨rfl, rfl⟩)
    go_ret3
    exact ⟨by rw [hF.out]; rfl, rfl⟩

end Go.Proofs.Ytbibchdjojmpaaa

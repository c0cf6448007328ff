/- The walks of layer 2's reference, on: leaves, ends, ways up, and where they meet. By the prover of this repo. -/
import Derived.Test.YtbfecpomlkapdaaTwigR
namespace Go.Proofs.Ytbfecpomlkapdaa
open Go.RowKit
open TwigM

theorem rleaf_c (l x : Int) (w : World) (hx : x ≤ 9223372036854775807) :
    Calls Try.prog 20 #[.int .i64 l, .int .i64 x] w fun e w' => e = .returned (nb (leafF l x)) ∧ w = w' := by
  have hp1 := pw_pos l
  by_cases hl : 1 ≤ l ∧ l ≤ 48
  · obtain ⟨hl, hl2⟩ := hl
    have hp2 := pw_le48 hl2
    by_cases h0 : 0 ≤ x
    · by_cases h1 : x < pw l
      · have hF : Hid (leafF l x = (pw l + x, true)) := if_pos ⟨hl, hl2, h0, h1⟩
        go_enter Try.func20, Try.ntmps20
        go_wp2_with (first
          | (go_at_call 57; refine (ris_yes l _ hl hl2).mono ?_; rintro e w' ⟨rfl, rfl⟩)
          | (go_at_call 58; refine (rpower l _ (by omega)).mono ?_; rintro e w' ⟨rfl, rfl⟩))
        go_ret2
        exact ⟨by rw [hF.out]; rfl, rfl⟩
      · have hF : Hid (leafF l x = (0, false)) := if_neg fun k => h1 k.2.2.2
        go_enter Try.func20, Try.ntmps20
        go_wp2_with (first
          | (go_at_call 57; refine (ris_yes l _ hl hl2).mono ?_; rintro e w' ⟨rfl, rfl⟩)
          | (go_at_call 58; refine (rpower l _ (by omega)).mono ?_; rintro e w' ⟨rfl, rfl⟩))
        go_ret2
        exact ⟨by rw [hF.out]; rfl, rfl⟩
    · have hF : Hid (leafF l x = (0, false)) := if_neg fun k => h0 k.2.2.1
      go_enter Try.func20, Try.ntmps20
      go_wp2_with (first
        | (go_at_call 57; refine (ris_yes l _ hl hl2).mono ?_; rintro e w' ⟨rfl, rfl⟩)
        | (go_at_call 58; refine (rpower l _ (by omega)).mono ?_; rintro e w' ⟨rfl, rfl⟩))
      go_ret2
      exact ⟨by rw [hF.out]; rfl, rfl⟩
  · have hF : Hid (leafF l x = (0, false)) := if_neg fun k => hl ⟨k.1, k.2.1⟩
    have hl := hide hl
    go_enter Try.func20, Try.ntmps20
    go_wp2_with (go_at_call 57; refine (ris_no l _ hl.out).mono ?_; rintro e w' ⟨rfl, rfl⟩)
    go_ret2
    exact ⟨by rw [hF.out]; rfl, rfl⟩

theorem rvalue_c (l id : Int) (w : World) (hx : id ≤ 9223372036854775807) :
    Calls Try.prog 22 #[.int .i64 l, .int .i64 id] w fun e w' => e = .returned (nb (valueF l id)) ∧ w = w' := by
  by_cases h0 : 1 ≤ id
  · have hd0 := lg_nonneg id
    by_cases hl : 1 ≤ l ∧ l ≤ 48
    · obtain ⟨hl, hl2⟩ := hl
      have h1 := lg_le h0 (show 0 ≤ l by omega)
      have h2 := lg_lt h0 (show 0 ≤ l by omega)
      have hp1 := pw_pos l
      have hp2 := pw_le48 hl2
      by_cases h3 : lg id = l
      · have hF : Hid (valueF l id = (id - pw l, true)) := if_pos ⟨right_iff.2 ⟨hl, hl2, h0, h1.1 (by omega)⟩, by omega⟩
        have h3 := hide h3
        clear h1 h2
        go_enter Try.func22, Try.ntmps22
        go_wp2_with (first
          | (go_at_call 24; refine (rdepth_yes id _ h0 hx).mono ?_; rw [h3.out]; rintro e w' ⟨rfl, rfl⟩)
          | (go_at_call 57; refine (ris_yes l _ hl hl2).mono ?_; rintro e w' ⟨rfl, rfl⟩)
          | (go_at_call 58; refine (rpower l _ (by omega)).mono ?_; rintro e w' ⟨rfl, rfl⟩))
        go_ret2
        exact ⟨by rw [hF.out]; rfl, rfl⟩
      · have hF : Hid (valueF l id = (0, false)) := if_neg fun k => h3 (by have := right_iff.1 k.1; omega)
        clear h1 h2
        generalize hd : lg id = d at *
        have hD := hide hd
        clear hd
        have h4 : (d != l) = true := by simpa using h3
        clear h3
        go_enter Try.func22, Try.ntmps22
        go_wp2_with (first
          | (go_at_call 24; refine (rdepth_yes id _ h0 hx).mono ?_; rw [hD.out]; rintro e w' ⟨rfl, rfl⟩)
          | (go_at_call 57; refine (ris_yes l _ hl hl2).mono ?_; rintro e w' ⟨rfl, rfl⟩))
        go_ret2
        exact ⟨by rw [hF.out]; rfl, rfl⟩
    · have hF : Hid (valueF l id = (0, false)) := if_neg fun k => hl (by have := right_iff.1 k.1; omega)
      have hl := hide hl
      go_enter Try.func22, Try.ntmps22
      go_wp2_with (first
        | (go_at_call 24; refine (rdepth_yes id _ h0 hx).mono ?_; rintro e w' ⟨rfl, rfl⟩)
        | (go_at_call 57; refine (ris_no l _ hl.out).mono ?_; rintro e w' ⟨rfl, rfl⟩))
      go_ret2
      exact ⟨by rw [hF.out]; rfl, rfl⟩
  · have hF : Hid (valueF l id = (0, false)) := if_neg fun k => h0 (by have := right_iff.1 k.1; omega)
    go_enter Try.func22, Try.ntmps22
    go_wp2_with (go_at_call 24; refine (rdepth_no id _ (by omega)).mono ?_; rintro e w' ⟨rfl, rfl⟩)
    go_ret2
    exact ⟨by rw [hF.out]; rfl, rfl⟩

set_option maxHeartbeats 400000 in
theorem rends_yes (l id : Int) (w : World) (hl : 1 ≤ l) (hl2 : l ≤ 48) (h0 : 1 ≤ id) (h1 : id < 2 * pw l) :
    Calls Try.prog 26 #[.int .i64 l, .int .i64 id] w fun e w' => e = .returned (.tuple #[.int .i64 (loF l id), .int .i64 (loF l id + pw (l - lg id) - 1), .bool true]) ∧ w = w' := by
  have hp2 := pw_le48 hl2
  have hp1 := pw_pos l
  have hd0 := lg_nonneg id
  have hd1 := (lg_le h0 (by omega)).2 h1
  have hbd := hide (fun k (a : 0 ≤ k) (b : k ≤ l - lg id) => ends_bound (l := l) (by omega) h0 h1 a b)
  have hend : Hid (id * pw (l - lg id) - pw l = loF l id) := by
    show _ = _
    unfold loF
    rw [Int.sub_mul, ← pw_add hd0 (by omega), show lg id + (l - lg id) = l by omega]
  have hb : id ≤ 9223372036854775807 := by omega
  generalize hd : lg id = d at *
  have hD := hide hd
  clear hd
  have H1 := hide h1
  go_enter Try.func26, Try.ntmps26
  go_wp2_with (first
    | (go_at_call 28; refine (rright_yes l id _ hl hl2 h0 H1.out).mono ?_; rintro e w' ⟨rfl, rfl⟩)
    | (go_at_call 24; refine (rdepth_yes id _ h0 hb).mono ?_; rw [hD.out]; rintro e w' ⟨rfl, rfl⟩))
  go_loop [7, 8, 9] (fun x y i => ∃ k u v : Int, 0 ≤ k ∧ d + k ≤ l ∧ i = .int .i64 (d + k) ∧ x = .int .i64 u ∧ y = .int .i64 v ∧ Hid (u = id * pw k) ∧ Hid (v = id * pw k + pw k - 1)) (fun _ _ i => (l - intOf i).toNat)
  case atStart => exact ⟨0, id, id, by omega, by omega, int_congr (by omega), rfl, rfl, by show _ = _; rw [pw_zero]; omega, by show _ = _; rw [pw_zero]; omega⟩
  case round =>
    obtain ⟨k, u, v, hk0, hk, rfl, rfl, rfl, hu, hv⟩ := hrel
    have b1 := hbd.out k hk0 (by omega)
    have b2 := pw_pos k
    have b3 : 0 ≤ id * pw k := Int.mul_nonneg (by omega) (by omega)
    have b4 : 0 ≤ u ∧ u ≤ 562949953421312 ∧ 0 ≤ v ∧ v ≤ 562949953421312 := by have := hu.out; have := hv.out; omega
    obtain ⟨b5, b6, b7, b8⟩ := b4
    clear b1 b2 b3
    by_cases hlt : d + k < l
    · have hs := hide (pw_succ hk0)
      go_wp2_with fail
      go_round
      case rel =>
        refine ⟨k + 1, 2 * u, 2 * v + 1, by omega, by omega, int_congr (by omega), rfl, rfl, ?_, ?_⟩
        · show _ = _
          rw [hs.out, hu.out, Int.mul_left_comm]
        · show _ = _
          rw [hs.out, hv.out, Int.mul_left_comm id]
          omega
      case measure => simp [intOf]; omega
    · have hk2 : k = l - d := by omega
      have hu2 : Hid (u - pw l = loF l id) := by show _ = _; rw [hu.out, hk2]; exact hend.out
      have hv2 : Hid (v - pw l = loF l id + pw (l - d) - 1) := by show _ = _; have := hend.out; rw [hv.out, hk2]; omega
      clear hk2
      go_wp2_with (go_at_call 58; refine (rpower l _ (by omega)).mono ?_; rintro e w' ⟨rfl, rfl⟩)
      go_ret3
      exact ⟨ret3 (int_congr hu2.out) (int_congr hv2.out) rfl, rfl⟩
theorem rends_c (l id : Int) (w : World) (hb : id ≤ 9223372036854775807) :
    Calls Try.prog 26 #[.int .i64 l, .int .i64 id] w fun e w' => e = .returned (nnb (endsF l id)) ∧ w = w' := by
  by_cases h : 1 ≤ l ∧ l ≤ 48 ∧ 1 ≤ id ∧ id < 2 * pw l
  · unfold endsF
    rw [if_pos (right_iff.2 h)]; exact rends_yes l id w h.1 h.2.1 h.2.2.1 h.2.2.2
  · have hF : Hid (endsF l id = (0, 0, false)) := if_neg (fun k => h (right_iff.1 k))
    have h := hide h
    go_enter Try.func26, Try.ntmps26
    go_wp2_with (go_at_call 28; refine (rright_no l id _ hb h.out).mono ?_; rintro e w' ⟨rfl, rfl⟩)
    go_ret3
    exact ⟨by rw [hF.out]; rfl, rfl⟩

set_option maxHeartbeats 400000 in
theorem rup_c (id by_ : Int) (w : World) (h1 : id ≤ 9223372036854775807) :
    Calls Try.prog 35 #[.int .i64 id, .int .i64 by_] w fun e w' => e = .returned (nb (upF id by_)) ∧ w = w' := by
  unfold upF
  by_cases h : 1 ≤ id
  · have hd0 := lg_nonneg id
    have hd1 := lg_le62 h h1
    generalize hd : lg id = d at *
    have hDe := hide hd
    clear hd
    by_cases h2 : 0 ≤ by_
    · by_cases h3 : by_ ≤ d
      · rw [if_pos ⟨h, h2, h3⟩]
        go_enter Try.func35, Try.ntmps35
        go_wp2_with (go_at_call 24; refine (rdepth_yes id _ h h1).mono ?_; rw [hDe.out]; rintro e w' ⟨rfl, rfl⟩)
        go_loop [0, 8] (fun x i => ∃ k : Int, 0 ≤ k ∧ k ≤ by_ ∧ i = .int .i64 k ∧ x = .int .i64 (id / pw k)) (fun _ i => (by_ - intOf i).toNat)
        case atStart => exact ⟨0, by omega, h2, rfl, int_congr (by rw [div_pw_zero])⟩
        case round =>
          obtain ⟨k, hk0, hk, rfl, rfl⟩ := hrel
          have hb : 0 ≤ id / pw k ∧ id / pw k ≤ id := ⟨Int.ediv_nonneg (by omega) (by have := pw_pos k; omega), Int.ediv_le_self _ (by omega)⟩
          have hs := hide (div_pw_succ id k hk0)
          generalize hx0 : id / pw k = x at *
          have hx := hide hx0
          clear hx0
          by_cases hlt : k < by_
          · go_wp2
            go_round
            case rel => exact ⟨k + 1, by omega, by omega, rfl, int_congr (by rw [hs.out])⟩
            case measure => simp [intOf]; omega
          · have hk2 : k = by_ := by omega
            subst hk2
            go_wp2
            go_ret2
            exact ⟨ret2 (int_congr (by rw [hx.out])) rfl, rfl⟩
      · rw [if_neg (by omega)]
        go_enter Try.func35, Try.ntmps35
        go_wp2_with (go_at_call 24; refine (rdepth_yes id _ h h1).mono ?_; rw [hDe.out]; rintro e w' ⟨rfl, rfl⟩)
        go_ret2
        exact ⟨rfl, rfl⟩
    · rw [if_neg (by omega)]
      go_enter Try.func35, Try.ntmps35
      go_wp2_with (go_at_call 24; refine (rdepth_yes id _ h h1).mono ?_; rw [hDe.out]; rintro e w' ⟨rfl, rfl⟩)
      go_ret2
      exact ⟨rfl, rfl⟩
  · rw [if_neg (by omega)]
    go_enter Try.func35, Try.ntmps35
    go_wp2_with (go_at_call 24; refine (rdepth_no id _ (by omega)).mono ?_; rintro e w' ⟨rfl, rfl⟩)
    go_ret2
    exact ⟨rfl, rfl⟩

theorem rpair_c (id : Int) (w : World) (h1 : id ≤ 9223372036854775807) :
    Calls Try.prog 37 #[.int .i64 id] w fun e w' => e = .returned (nb (pairF id)) ∧ w = w' := by
  by_cases h : id < 2
  · have hP : Hid (pairF id = (0, false)) := if_pos h
    go_enter Try.func37, Try.ntmps37
    go_wp2
    go_ret2
    exact ⟨by rw [hP.out]; rfl, rfl⟩
  · by_cases h2 : id % 2 = 0
    · have hP : Hid (pairF id = (id + 1, true)) := by show _ = _; unfold pairF; rw [if_neg h, if_pos h2]
      have h3 : (id % 2 == 0) = true := by simpa using h2
      have h4 := hide h2
      clear h2
      have h5 : id ≤ 9223372036854775806 := by have := h4.out; omega
      go_enter Try.func37, Try.ntmps37
      go_wp2
      go_ret2
      exact ⟨by rw [hP.out]; rfl, rfl⟩
    · have hP : Hid (pairF id = (id - 1, true)) := by show _ = _; unfold pairF; rw [if_neg h, if_neg h2]
      have h3 : (id % 2 == 0) = false := beq_eq_false_iff_ne.2 h2
      clear h2
      go_enter Try.func37, Try.ntmps37
      go_wp2
      go_ret2
      exact ⟨by rw [hP.out]; rfl, rfl⟩

theorem rkids_c (l id : Int) (w : World) (hb : id ≤ 9223372036854775807) :
    Calls Try.prog 38 #[.int .i64 l, .int .i64 id] w fun e w' => e = .returned (nnb (kidsF l id)) ∧ w = w' := by
  by_cases hr : 1 ≤ l ∧ l ≤ 48 ∧ 1 ≤ id ∧ id < 2 * pw l
  · have hR := right_iff.2 hr
    obtain ⟨hl, hl2, h0, h1⟩ := hr
    have hp2 := pw_le48 hl2
    have h3 := lg_lt h0 (show 0 ≤ l by omega)
    have h4 := (lg_le h0 (show 0 ≤ l by omega)).2 h1
    have H1 := hide h1
    by_cases h2 : id < pw l
    · have hP : Hid (kidsF l id = (2 * id, 2 * id + 1, true)) := if_pos ⟨hR, h2⟩
      have h5 : (lg id == l) = false := beq_eq_false_iff_ne.2 (by omega)
      clear hR h3 h4
      generalize hd : lg id = d at *
      have hD := hide hd
      clear hd
      go_enter Try.func38, Try.ntmps38
      go_wp2_with (first
        | (go_at_call 28; refine (rright_yes l id _ hl hl2 h0 H1.out).mono ?_; rintro e w' ⟨rfl, rfl⟩)
        | (go_at_call 24; refine (rdepth_yes id _ h0 hb).mono ?_; rw [hD.out]; rintro e w' ⟨rfl, rfl⟩))
      go_ret3
      exact ⟨by rw [hP.out]; rfl, rfl⟩
    · have hP : Hid (kidsF l id = (0, 0, false)) := if_neg fun k => h2 k.2
      have h5 : lg id = l := by omega
      have hD := hide h5
      clear hR h3 h4 h5 h2
      go_enter Try.func38, Try.ntmps38
      go_wp2_with (first
        | (go_at_call 28; refine (rright_yes l id _ hl hl2 h0 H1.out).mono ?_; rintro e w' ⟨rfl, rfl⟩)
        | (go_at_call 24; refine (rdepth_yes id _ h0 hb).mono ?_; rw [hD.out]; rintro e w' ⟨rfl, rfl⟩))
      go_ret3
      exact ⟨by rw [hP.out]; rfl, rfl⟩
  · have hP : Hid (kidsF l id = (0, 0, false)) := if_neg fun k => hr (right_iff.1 k.1)
    have hr := hide hr
    go_enter Try.func38, Try.ntmps38
    go_wp2_with (first
      | (go_at_call 28; refine (rright_no l id _ hb hr.out).mono ?_; rintro e w' ⟨rfl, rfl⟩)
      | (go_at_call 24; refine (rdepth_c id _ hb).mono ?_; rintro e w' ⟨rfl, rfl⟩))
    go_ret3
    exact ⟨by rw [hP.out]; rfl, rfl⟩
end Go.Proofs.Ytbfecpomlkapdaa

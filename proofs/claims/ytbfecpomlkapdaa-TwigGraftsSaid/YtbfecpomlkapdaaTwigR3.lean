/- The walks of layer 2's reference, on: Above, Meet, Graft, Prune. By the prover of this repo. -/
import Derived.Test.YtbfecpomlkapdaaTwigR2
namespace Go.Proofs.Ytbfecpomlkapdaa
open Go.RowKit
open TwigM

theorem rabove_c (a b : Int) (w : World) (ha1 : a ≤ 9223372036854775807) (hb1 : b ≤ 9223372036854775807) (hb0 : -9223372036854775808 ≤ b) :
    Calls Try.prog 17 #[.int .i64 a, .int .i64 b] w fun e w' => e = .returned (.bool (aboveB a b)) ∧ w = w' := by
  by_cases ha : 1 ≤ a
  · go_enter Try.func17, Try.ntmps17
    go_wp2_with fail
    go_loop [1] (fun y => ∃ v : Int, v ≤ b ∧ -9223372036854775808 ≤ v ∧ y = .int .i64 v ∧ Hid (aboveB a b = aboveB a v)) (fun y => (intOf y).toNat)
    case atStart => exact ⟨b, by omega, hb0, rfl, rfl⟩
    case round =>
      obtain ⟨v, hv, hv0, rfl, hm⟩ := hrel
      by_cases hlt : a < v
      · have hs := hide (above_half ha hlt)
        go_wp2_with fail
        go_round
        case rel => exact ⟨v / 2, by omega, by omega, rfl, hm.out.trans hs.out⟩
        case measure => simp [intOf]; omega
      · have he := hide (above_end ha (show v ≤ a by omega))
        go_wp2_with fail
        go_ret
        refine ⟨?_, rfl⟩
        rw [hm.out, he.out]
        exact ret_congr (bool_congr (by rw [Bool.eq_iff_iff]; simp))
  · have hA : Hid (aboveB a b = false) := decide_eq_false fun k => ha k.1
    go_enter Try.func17, Try.ntmps17
    go_wp2_with fail
    go_ret
    exact ⟨by rw [hA.out]; rfl, rfl⟩

theorem rmeet_c (a b : Int) (w : World) (ha1 : a ≤ 9223372036854775807) (hb1 : b ≤ 9223372036854775807) :
    Calls Try.prog 15 #[.int .i64 a, .int .i64 b] w fun e w' => e = .returned (nb (meetF a b)) ∧ w = w' := by
  by_cases ha : 1 ≤ a
  · by_cases hb : 1 ≤ b
    · have hF : Hid (meetF a b = (meetI a b, true)) := meetF_eq ha hb
      go_enter Try.func15, Try.ntmps15
      go_wp2_with fail
      go_loop [0, 1] (fun x y => ∃ u v : Int, 1 ≤ u ∧ u ≤ a ∧ 1 ≤ v ∧ v ≤ b ∧ x = .int .i64 u ∧ y = .int .i64 v ∧ Hid (meetI a b = meetI u v)) (fun x y => (intOf x).toNat + (intOf y).toNat)
      case atStart => exact ⟨a, b, by omega, by omega, by omega, by omega, rfl, rfl, rfl⟩
      case round =>
        obtain ⟨u, v, hu0, hu1, hv0, hv1, rfl, rfl, hm⟩ := hrel
        by_cases hne : u = v
        · subst hne
          have hs := hide (meetI_same u (by omega))
          go_wp2_with fail
          go_ret2
          refine ⟨?_, rfl⟩
          rw [hF.out]
          exact ret2 (int_congr (by rw [hm.out, hs.out])) rfl
        · have hn : (u != v) = true := by simpa using hne
          by_cases hlt : v < u
          · have h4 := hide (meetI_left (show 0 ≤ v by omega) hlt)
            clear hne
            go_wp2_with fail
            go_round
            case rel => exact ⟨u / 2, v, by omega, by omega, by omega, by omega, rfl, rfl, hm.out.trans h4.out⟩
            case measure => simp [intOf]; omega
          · have h4 := hide (meetI_right (show 0 ≤ u by omega) (show u < v by omega))
            have hlt2 : u < v := by omega
            clear hne
            go_wp2_with fail
            go_round
            case rel => exact ⟨u, v / 2, by omega, by omega, by omega, by omega, rfl, rfl, hm.out.trans h4.out⟩
            case measure => simp [intOf]; omega
    · have hA : Hid (meetF a b = (0, false)) := if_neg fun k => hb k.2
      go_enter Try.func15, Try.ntmps15
      go_wp2_with fail
      go_ret2
      exact ⟨by rw [hA.out]; rfl, rfl⟩
  · have hA : Hid (meetF a b = (0, false)) := if_neg fun k => ha k.1
    go_enter Try.func15, Try.ntmps15
    go_wp2_with fail
    go_ret2
    exact ⟨by rw [hA.out]; rfl, rfl⟩

theorem rgraft_c (id by_ : Int) (w : World) (h1 : id ≤ 9223372036854775807) (hb1 : by_ ≤ 9223372036854775807) (hb2 : -9223372036854775808 ≤ by_) :
    Calls Try.prog 31 #[.int .i64 id, .int .i64 by_] w fun e w' => e = .returned (nb (graftF id by_)) ∧ w = w' := by
  by_cases h : 1 ≤ id
  · have hd0 := lg_nonneg id
    have hd1 := lg_le62 h h1
    have hs := lg_spec h
    by_cases h2 : 0 ≤ by_ ∧ lg id + by_ ≤ 48
    · obtain ⟨h2, h3⟩ := h2
      have hG : Hid (graftF id by_ = (id - pw (lg id) + pw (lg id + by_), true)) := by show _ = _; unfold graftF; rw [if_pos ⟨h, h2, h3⟩]
      have hq1 := pw_pos (lg id)
      have hq2 := pw_pos (lg id + by_)
      have hq3 := pw_le48 h3
      have hq4 := pw_le48 (show lg id ≤ 48 by omega)
      generalize hd : lg id = d at *
      have hD := hide hd
      clear hd
      go_enter Try.func31, Try.ntmps31
      go_wp2_with fail
      refine (rdepth_yes id _ h h1).mono ?_
      rw [hD.out]
      rintro e w' ⟨rfl, rfl⟩
      go_wp2_with fail
      refine (rpower d _ (by omega)).mono ?_
      rintro e w' ⟨rfl, rfl⟩
      go_wp2_with fail
      refine (rpower (d + by_) _ (by omega)).mono ?_
      rintro e w' ⟨rfl, rfl⟩
      go_wp2_with fail
      go_ret2
      exact ⟨by rw [hG.out]; rfl, rfl⟩
    · have hG : Hid (graftF id by_ = (0, false)) := by show _ = _; unfold graftF; rw [if_neg fun k => h2 k.2]
      generalize hd : lg id = d at *
      have hD := hide hd
      clear hd
      by_cases h3 : 0 ≤ by_
      · by_cases h5 : by_ ≤ 48
        · have h4 : 48 < d + by_ := by omega
          clear h2
          go_enter Try.func31, Try.ntmps31
          go_wp2_with fail
          refine (rdepth_yes id _ h h1).mono ?_
          rw [hD.out]
          rintro e w' ⟨rfl, rfl⟩
          go_wp2_with fail
          go_ret2
          exact ⟨by rw [hG.out]; rfl, rfl⟩
        · clear h2
          go_enter Try.func31, Try.ntmps31
          go_wp2_with fail
          refine (rdepth_yes id _ h h1).mono ?_
          rw [hD.out]
          rintro e w' ⟨rfl, rfl⟩
          go_wp2_with fail
          go_ret2
          exact ⟨by rw [hG.out]; rfl, rfl⟩
      · clear h2
        go_enter Try.func31, Try.ntmps31
        go_wp2_with fail
        refine (rdepth_yes id _ h h1).mono ?_
        rw [hD.out]
        rintro e w' ⟨rfl, rfl⟩
        go_wp2_with fail
        go_ret2
        exact ⟨by rw [hG.out]; rfl, rfl⟩
  · have hG : Hid (graftF id by_ = (0, false)) := by show _ = _; unfold graftF; rw [if_neg fun k => h k.1]
    go_enter Try.func31, Try.ntmps31
    go_wp2_with fail
    refine (rdepth_no id _ (by omega)).mono ?_
    rintro e w' ⟨rfl, rfl⟩
    go_wp2_with fail
    go_ret2
    exact ⟨by rw [hG.out]; rfl, rfl⟩

theorem rprune_c (id depth : Int) (w : World) (h1 : id ≤ 9223372036854775807) (hb1 : depth ≤ 9223372036854775807) :
    Calls Try.prog 33 #[.int .i64 id, .int .i64 depth] w fun e w' => e = .returned (nb (pruneF id depth)) ∧ w = w' := by
  by_cases h : 1 ≤ id
  · have hd0 := lg_nonneg id
    have hd1 := lg_le62 h h1
    by_cases h2 : 0 ≤ depth
    · have hG : Hid (pruneF id depth = (id / pw (lg id - depth), true)) := by show _ = _; unfold pruneF; rw [if_pos ⟨h, h2⟩]
      generalize hd : lg id = d at *
      have hD := hide hd
      clear hd
      go_enter Try.func33, Try.ntmps33
      go_wp2_with fail
      refine (rdepth_yes id _ h h1).mono ?_
      rw [hD.out]
      rintro e w' ⟨rfl, rfl⟩
      go_wp2_with fail
      go_loop [0, 6] (fun x i => ∃ k u : Int, 0 ≤ k ∧ (k ≤ d - depth ∨ k = 0) ∧ 0 ≤ u ∧ u ≤ id ∧ i = .int .i64 (d - k) ∧ x = .int .i64 u ∧ Hid (u = id / pw k)) (fun _ i => (intOf i - depth).toNat)
      case atStart => exact ⟨0, id, by omega, .inr rfl, by omega, by omega, int_congr (by omega), rfl, by show _ = _; rw [div_pw_zero]⟩
      case round =>
        obtain ⟨k, u, hk0, hk, hu0, hu1, rfl, rfl, hu⟩ := hrel
        have hs := hide (div_pw_succ id k hk0)
        by_cases hlt : depth < d - k
        · have hkd : k ≤ d := by omega
          clear hk
          go_wp2_with fail
          go_round
          case rel => exact ⟨k + 1, u / 2, by omega, .inl (by omega), by omega, by omega, int_congr (by omega), rfl, by show _ = _; rw [hs.out, ← hu.out]⟩
          case measure => simp [intOf]; omega
        · have hk2 : Hid (u = id / pw (d - depth)) := by
            show _ = _
            rcases hk with hk | hk
            · rw [hu.out, show k = d - depth by omega]
            · rw [hu.out, hk, pw_zero, pw_neg (by omega)]
          have hk3 : -100 ≤ d - k ∧ k ≤ 100 := by omega
          clear hk
          go_wp2_with fail
          go_ret2
          refine ⟨?_, rfl⟩
          rw [hG.out]
          exact ret2 (int_congr hk2.out) rfl
    · have hG : Hid (pruneF id depth = (0, false)) := by show _ = _; unfold pruneF; rw [if_neg fun k => h2 k.2]
      go_enter Try.func33, Try.ntmps33
      go_wp2_with fail
      refine (rdepth_yes id _ h h1).mono ?_
      rintro e w' ⟨rfl, rfl⟩
      go_wp2_with fail
      go_ret2
      exact ⟨by rw [hG.out]; rfl, rfl⟩
  · have hG : Hid (pruneF id depth = (0, false)) := by show _ = _; unfold pruneF; rw [if_neg fun k => h k.1]
    go_enter Try.func33, Try.ntmps33
    go_wp2_with fail
    refine (rdepth_no id _ (by omega)).mono ?_
    rintro e w' ⟨rfl, rfl⟩
    go_wp2_with fail
    go_ret2
    exact ⟨by rw [hG.out]; rfl, rfl⟩
end Go.Proofs.Ytbfecpomlkapdaa

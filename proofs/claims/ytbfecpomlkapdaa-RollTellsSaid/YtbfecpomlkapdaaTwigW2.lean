/- The walks of layer 2, on: twig.Above, Meet, Graft, Prune, each once, by what it computes. By the prover of this repo. -/
import Derived.Test.YtbfecpomlkapdaaTwigW
namespace Go.Proofs.Ytbfecpomlkapdaa
open Go.RowKit
open TwigM

theorem above_deep (a b : Int) (w : World) (ha : 1 ≤ a) (ha1 : a ≤ 9223372036854775807) (hb : 1 ≤ b) (hb1 : b ≤ 9223372036854775807) :
    Calls Try.prog 16 #[.int .i64 a, .int .i64 b] w fun e w' => e = .returned (.bool (aboveB a b)) ∧ w = w' := by
  have hd0 := lg_nonneg a
  have hd1 := lg_le62 ha ha1
  have he0 := lg_nonneg b
  have he1 := lg_le62 hb hb1
  by_cases h : lg a ≤ lg b
  · have hq : 0 ≤ b / pw (lg b - lg a) ∧ b / pw (lg b - lg a) ≤ b := ⟨Int.ediv_nonneg (by omega) (by have := pw_pos (lg b - lg a); omega), Int.ediv_le_self _ (by omega)⟩
    by_cases h2 : b / pw (lg b - lg a) = a
    · have hA : Hid (aboveB a b = true) := decide_eq_true ⟨ha, hb, h, h2⟩
      generalize hd : lg a = d at *
      have hD := hide hd
      clear hd
      generalize he : lg b = f at *
      have hE := hide he
      clear he
      have hp : (2 : Int) ^ (f - d).toNat = pw (f - d) := rfl
      go_enter Try.func16, Try.ntmps16
      go_wp2_with fail
      refine (depth_yes a _ ha ha1).mono ?_
      rw [hD.out]
      rintro e w' ⟨rfl, rfl⟩
      go_wp2_with fail
      refine (depth_yes b _ hb hb1).mono ?_
      rw [hE.out]
      rintro e w' ⟨rfl, rfl⟩
      go_wp2_with fail
      go_ret
      exact ⟨by rw [hA.out]; rfl, rfl⟩
    · have hA : Hid (aboveB a b = false) := decide_eq_false fun k => h2 k.2.2.2
      generalize hd : lg a = d at *
      have hD := hide hd
      clear hd
      generalize he : lg b = f at *
      have hE := hide he
      clear he
      have hp : (2 : Int) ^ (f - d).toNat = pw (f - d) := rfl
      generalize hx : b / pw (f - d) = q at *
      have hX := hide hx
      have h3 : (q == a) = false := beq_eq_false_iff_ne.2 h2
      clear h2
      go_enter Try.func16, Try.ntmps16
      go_wp2_with fail
      refine (depth_yes a _ ha ha1).mono ?_
      rw [hD.out]
      rintro e w' ⟨rfl, rfl⟩
      go_wp2_with fail
      refine (depth_yes b _ hb hb1).mono ?_
      rw [hE.out]
      rintro e w' ⟨rfl, rfl⟩
      go_wp2_with fail
      go_ret
      exact ⟨by rw [hA.out]; rfl, rfl⟩
  · have hA : Hid (aboveB a b = false) := decide_eq_false fun k => h k.2.2.1
    generalize hd : lg a = d at *
    have hD := hide hd
    clear hd
    generalize he : lg b = f at *
    have hE := hide he
    clear he
    go_enter Try.func16, Try.ntmps16
    go_wp2_with fail
    refine (depth_yes a _ ha ha1).mono ?_
    rw [hD.out]
    rintro e w' ⟨rfl, rfl⟩
    go_wp2_with fail
    refine (depth_yes b _ hb hb1).mono ?_
    rw [hE.out]
    rintro e w' ⟨rfl, rfl⟩
    go_wp2_with fail
    go_ret
    exact ⟨by rw [hA.out]; rfl, rfl⟩
theorem above_c (a b : Int) (w : World) (ha1 : a ≤ 9223372036854775807) (hb1 : b ≤ 9223372036854775807) :
    Calls Try.prog 16 #[.int .i64 a, .int .i64 b] w fun e w' => e = .returned (.bool (aboveB a b)) ∧ w = w' := by
  by_cases ha : 1 ≤ a
  · by_cases hb : 1 ≤ b
    · exact above_deep a b w ha ha1 hb hb1
    · have hA : Hid (aboveB a b = false) := decide_eq_false fun k => hb k.2.1
      go_enter Try.func16, Try.ntmps16
      go_wp2_with fail
      refine (depth_yes a _ ha ha1).mono ?_
      rintro e w' ⟨rfl, rfl⟩
      go_wp2_with fail
      refine (depth_no b _ (by omega)).mono ?_
      rintro e w' ⟨rfl, rfl⟩
      go_wp2_with fail
      go_ret
      exact ⟨by rw [hA.out]; rfl, rfl⟩
  · have hA : Hid (aboveB a b = false) := decide_eq_false fun k => ha k.1
    go_enter Try.func16, Try.ntmps16
    go_wp2_with fail
    refine (depth_no a _ (by omega)).mono ?_
    rintro e w' ⟨rfl, rfl⟩
    go_wp2_with fail
    refine (depth_c b _ hb1).mono ?_
    rintro e w' ⟨rfl, rfl⟩
    go_wp2_with fail
    go_ret
    exact ⟨by rw [hA.out]; rfl, rfl⟩

theorem graft_c (id by_ : Int) (w : World) (h1 : id ≤ 9223372036854775807) (hb1 : by_ ≤ 9223372036854775807) (hb2 : -9223372036854775808 ≤ by_) :
    Calls Try.prog 30 #[.int .i64 id, .int .i64 by_] w fun e w' => e = .returned (nb (graftF id by_)) ∧ ∃ n, w' = w.drewN n := by
  by_cases h : 1 ≤ id
  · have hd0 := lg_nonneg id
    have hd1 := lg_le62 h h1
    have hs := lg_spec h
    by_cases h2 : 0 ≤ by_ ∧ lg id + by_ ≤ 48
    · obtain ⟨h2, h3⟩ := h2
      have hG : Hid (graftF id by_ = (id - pw (lg id) + pw (lg id + by_), true)) := by show _ = _; unfold graftF; rw [if_pos ⟨h, h2, h3⟩]
      have hq1 := pw_pos (lg id)
      have hq2 := pw_pos (lg id + by_)
      have hq3 := pw_le48 h3
      have hq4 := pw_le48 (show lg id ≤ 48 by omega)
      generalize hd : lg id = d at *
      have hD := hide hd
      clear hd
      have hp : (2 : Int) ^ d.toNat = pw d := rfl
      have hp2 : (2 : Int) ^ (d + by_).toNat = pw (d + by_) := rfl
      go_enter Try.func30, Try.ntmps30
      go_wp2_with fail
      refine (depth_yes id _ h h1).mono ?_
      rw [hD.out]
      rintro e w' ⟨rfl, rfl⟩
      go_wp2_with fail
      go_quiet (fail)
      go_wp2
      go_ret2
      exact ⟨by rw [hG.out]; rfl, nq, rfl⟩
    · have hG : Hid (graftF id by_ = (0, false)) := by show _ = _; unfold graftF; rw [if_neg fun k => h2 k.2]
      generalize hd : lg id = d at *
      have hD := hide hd
      clear hd
      by_cases h3 : 0 ≤ by_
      · have h4 : 48 - d < by_ := by omega
        clear h2
        go_enter Try.func30, Try.ntmps30
        go_wp2_with fail
        refine (depth_yes id _ h h1).mono ?_
        rw [hD.out]
        rintro e w' ⟨rfl, rfl⟩
        go_wp2_with fail
        go_ret2
        exact ⟨by rw [hG.out]; rfl, 0, rfl⟩
      · clear h2
        go_enter Try.func30, Try.ntmps30
        go_wp2_with fail
        refine (depth_yes id _ h h1).mono ?_
        rw [hD.out]
        rintro e w' ⟨rfl, rfl⟩
        go_wp2_with fail
        go_ret2
        exact ⟨by rw [hG.out]; rfl, 0, rfl⟩
  · have hG : Hid (graftF id by_ = (0, false)) := by show _ = _; unfold graftF; rw [if_neg fun k => h k.1]
    go_enter Try.func30, Try.ntmps30
    go_wp2_with fail
    refine (depth_no id _ (by omega)).mono ?_
    rintro e w' ⟨rfl, rfl⟩
    go_wp2_with fail
    go_ret2
    exact ⟨by rw [hG.out]; rfl, 0, rfl⟩

theorem prune_c (id depth : Int) (w : World) (h1 : id ≤ 9223372036854775807) (hb1 : depth ≤ 9223372036854775807) :
    Calls Try.prog 32 #[.int .i64 id, .int .i64 depth] w fun e w' => e = .returned (nb (pruneF id depth)) ∧ w = w' := by
  by_cases h : 1 ≤ id
  · have hd0 := lg_nonneg id
    have hd1 := lg_le62 h h1
    by_cases h2 : 0 ≤ depth
    · have hG : Hid (pruneF id depth = (id / pw (lg id - depth), true)) := by show _ = _; unfold pruneF; rw [if_pos ⟨h, h2⟩]
      by_cases h3 : lg id ≤ depth
      · rw [pw_neg (show lg id - depth ≤ 0 by omega), Int.ediv_one] at hG
        generalize hd : lg id = d at *
        have hD := hide hd
        clear hd
        go_enter Try.func32, Try.ntmps32
        go_wp2_with fail
        refine (depth_yes id _ h h1).mono ?_
        rw [hD.out]
        rintro e w' ⟨rfl, rfl⟩
        go_wp2_with fail
        go_ret2
        refine ⟨?_, rfl⟩
        rw [hG.out]
        exact ret2 (int_congr (by rw [show (max 0 (d - depth)).toNat = 0 by omega]; simp)) rfl
      · have hq : 0 ≤ id / pw (lg id - depth) ∧ id / pw (lg id - depth) ≤ id := ⟨Int.ediv_nonneg (by omega) (by have := pw_pos (lg id - depth); omega), Int.ediv_le_self _ (by omega)⟩
        generalize hd : lg id = d at *
        have hD := hide hd
        clear hd
        go_enter Try.func32, Try.ntmps32
        go_wp2_with fail
        refine (depth_yes id _ h h1).mono ?_
        rw [hD.out]
        rintro e w' ⟨rfl, rfl⟩
        go_wp2_with fail
        go_ret2
        refine ⟨?_, rfl⟩
        rw [hG.out]
        exact ret2 (int_congr (by rw [show (max 0 (d - depth)).toNat = (d - depth).toNat by omega]; rfl)) rfl
    · have hG : Hid (pruneF id depth = (0, false)) := by show _ = _; unfold pruneF; rw [if_neg fun k => h2 k.2]
      generalize hd : lg id = d at *
      have hD := hide hd
      clear hd
      go_enter Try.func32, Try.ntmps32
      go_wp2_with fail
      refine (depth_yes id _ h h1).mono ?_
      rw [hD.out]
      rintro e w' ⟨rfl, rfl⟩
      go_wp2_with fail
      go_ret2
      exact ⟨by rw [hG.out]; rfl, rfl⟩
  · have hG : Hid (pruneF id depth = (0, false)) := by show _ = _; unfold pruneF; rw [if_neg fun k => h k.1]
    go_enter Try.func32, Try.ntmps32
    go_wp2_with fail
    refine (depth_no id _ (by omega)).mono ?_
    rintro e w' ⟨rfl, rfl⟩
    go_wp2_with fail
    go_ret2
    exact ⟨by rw [hG.out]; rfl, rfl⟩

set_option maxHeartbeats 400000 in
theorem meet_yes (a b : Int) (w : World) (ha : 1 ≤ a) (ha1 : a ≤ 9223372036854775807) (hb : 1 ≤ b) (hb1 : b ≤ 9223372036854775807) :
    Calls Try.prog 14 #[.int .i64 a, .int .i64 b] w fun e w' => e = .returned (.tuple #[.int .i64 (meetI a b), .bool true]) ∧ w = w' := by
  have hd0 := lg_nonneg a
  have hd1 := lg_le62 ha ha1
  have he0 := lg_nonneg b
  have he1 := lg_le62 hb hb1
  by_cases h : lg b < lg a
  · obtain ⟨h2, h3⟩ := lg_div ha (show 0 ≤ lg a - lg b by omega) (by omega)
    have h4 : a / pw (lg a - lg b) ≤ a := Int.ediv_le_self _ (by omega)
    have hm := meetI_down ha hb (lg a - lg b).toNat (by omega)
    rw [show (((lg a - lg b).toNat : Nat) : Int) = lg a - lg b by omega] at hm
    have hM := hide hm
    have h5 : Hid (lg (a / pw (lg a - lg b)) = lg b) := by show _ = _; omega
    clear hm h3
    generalize hd : lg a = d at *
    have hD := hide hd
    clear hd
    generalize he : lg b = f at *
    have hE := hide he
    clear he
    have hp : (2 : Int) ^ (d - f).toNat = pw (d - f) := rfl
    generalize hx : a / pw (d - f) = x0 at *
    have hX := hide hx
    go_enter Try.func14, Try.ntmps14
    go_wp2_with fail
    refine (depth_yes a _ ha ha1).mono ?_
    rw [hD.out]
    rintro e w' ⟨rfl, rfl⟩
    go_wp2_with fail
    refine (depth_yes b _ hb hb1).mono ?_
    rw [hE.out]
    rintro e w' ⟨rfl, rfl⟩
    go_wp2_with fail
    clear hx hp
    go_loop [0, 1] (fun x y => ∃ u v : Int, 1 ≤ u ∧ u ≤ a ∧ 1 ≤ v ∧ v ≤ b ∧ x = .int .i64 u ∧ y = .int .i64 v ∧ Hid (lg u = lg v) ∧ Hid (meetI a b = meetI u v)) (fun x _ => (intOf x).toNat)
    case atStart => exact ⟨x0, b, by omega, by omega, hb, by omega, rfl, rfl, h5.out.trans hE.out.symm, hM.out⟩
    case round =>
      obtain ⟨u, v, hu0, hu1, hv0, hv1, rfl, rfl, hl, hm⟩ := hrel
      by_cases hne : u = v
      · subst hne
        have hs := hide (meetI_same u (by omega))
        go_wp2
        go_ret2
        exact ⟨ret2 (int_congr (by rw [hm.out, hs.out])) rfl, rfl⟩
      · obtain ⟨h2, h3, h4, h5⟩ := meetI_half hu0 hv0 hne hl.out
        have h4 := hide h4
        have h5 := hide h5
        have hn : (u != v) = true := by simpa using hne
        clear hne
        go_wp2
        go_round
        case rel => exact ⟨u / 2, v / 2, by omega, by omega, by omega, by omega, rfl, rfl, h5, hm.out.trans h4.out⟩
        case measure => simp [intOf]; omega
  · obtain ⟨h2, h3⟩ := lg_div hb (show 0 ≤ lg b - lg a by omega) (by omega)
    have h4 : b / pw (lg b - lg a) ≤ b := Int.ediv_le_self _ (by omega)
    have hm := meetI_down hb ha (lg b - lg a).toNat (by omega)
    rw [show (((lg b - lg a).toNat : Nat) : Int) = lg b - lg a by omega] at hm
    have hM : Hid (meetI a b = meetI a (b / pw (lg b - lg a))) := by
      show _ = _
      rw [meetI_comm a b (by omega) (by omega), hm, meetI_comm _ a (by omega) (by omega)]
    have h5 : Hid (lg a = lg (b / pw (lg b - lg a))) := by show _ = _; omega
    clear hm h3
    generalize hd : lg a = d at *
    have hD := hide hd
    clear hd
    generalize he : lg b = f at *
    have hE := hide he
    clear he
    have hp : (2 : Int) ^ (f - d).toNat = pw (f - d) := rfl
    generalize hx : b / pw (f - d) = x0 at *
    have hX := hide hx
    go_enter Try.func14, Try.ntmps14
    go_wp2_with fail
    refine (depth_yes a _ ha ha1).mono ?_
    rw [hD.out]
    rintro e w' ⟨rfl, rfl⟩
    go_wp2_with fail
    refine (depth_yes b _ hb hb1).mono ?_
    rw [hE.out]
    rintro e w' ⟨rfl, rfl⟩
    go_wp2_with fail
    clear hx hp
    go_loop [0, 1] (fun x y => ∃ u v : Int, 1 ≤ u ∧ u ≤ a ∧ 1 ≤ v ∧ v ≤ b ∧ x = .int .i64 u ∧ y = .int .i64 v ∧ Hid (lg u = lg v) ∧ Hid (meetI a b = meetI u v)) (fun x _ => (intOf x).toNat)
    case atStart => exact ⟨a, x0, by omega, by omega, by omega, by omega, rfl, rfl, hD.out.trans h5.out, hM.out⟩
    case round =>
      obtain ⟨u, v, hu0, hu1, hv0, hv1, rfl, rfl, hl, hm⟩ := hrel
      by_cases hne : u = v
      · subst hne
        have hs := hide (meetI_same u (by omega))
        go_wp2
        go_ret2
        exact ⟨ret2 (int_congr (by rw [hm.out, hs.out])) rfl, rfl⟩
      · obtain ⟨h2, h3, h4, h5⟩ := meetI_half hu0 hv0 hne hl.out
        have h4 := hide h4
        have h5 := hide h5
        have hn : (u != v) = true := by simpa using hne
        clear hne
        go_wp2
        go_round
        case rel => exact ⟨u / 2, v / 2, by omega, by omega, by omega, by omega, rfl, rfl, h5, hm.out.trans h4.out⟩
        case measure => simp [intOf]; omega
theorem meet_c (a b : Int) (w : World) (ha1 : a ≤ 9223372036854775807) (hb1 : b ≤ 9223372036854775807) :
    Calls Try.prog 14 #[.int .i64 a, .int .i64 b] w fun e w' => e = .returned (nb (meetF a b)) ∧ w = w' := by
  by_cases ha : 1 ≤ a
  · by_cases hb : 1 ≤ b
    · rw [meetF_eq ha hb]; exact meet_yes a b w ha ha1 hb hb1
    · have hA : Hid (meetF a b = (0, false)) := if_neg fun k => hb k.2
      go_enter Try.func14, Try.ntmps14
      go_wp2_with fail
      refine (depth_yes a _ ha ha1).mono ?_
      rintro e w' ⟨rfl, rfl⟩
      go_wp2_with fail
      refine (depth_no b _ (by omega)).mono ?_
      rintro e w' ⟨rfl, rfl⟩
      go_wp2_with fail
      go_ret2
      exact ⟨by rw [hA.out]; rfl, rfl⟩
  · have hA : Hid (meetF a b = (0, false)) := if_neg fun k => ha k.1
    go_enter Try.func14, Try.ntmps14
    go_wp2_with fail
    refine (depth_no a _ (by omega)).mono ?_
    rintro e w' ⟨rfl, rfl⟩
    go_wp2_with fail
    refine (depth_c b _ hb1).mono ?_
    rintro e w' ⟨rfl, rfl⟩
    go_wp2_with fail
    go_ret2
    exact ⟨by rw [hA.out]; rfl, rfl⟩
end Go.Proofs.Ytbfecpomlkapdaa

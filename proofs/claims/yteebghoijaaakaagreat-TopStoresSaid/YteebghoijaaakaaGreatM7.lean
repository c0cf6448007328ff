/- Part 7 of the proof: texts joined by this repo's tools/merge2.py (TwigW2). By the prover of this repo. -/
import Derived.Test.YteebghoijaaakaaGreatM6
set_option linter.unusedVariables false
set_option linter.unusedSimpArgs false
/- The walks of layer 2, on: twig.Above, Meet, Graft, Prune, each once, by what it computes. By the prover of this repo. -/
namespace Go.Proofs.YteebghoijaaakaaGreat
open Go.RowKit
open TwigM

set_option maxHeartbeats 400000 in
theorem meet_yes (a b : Int) (w : World) (ha : 1 ≤ a) (ha1 : a ≤ 9223372036854775807) (hb : 1 ≤ b) (hb1 : b ≤ 9223372036854775807) :
    Calls Tryz.prog 189 #[.int .i64 a, .int .i64 b] w fun e w' => e = .returned (.tuple #[.int .i64 (meetI a b), .bool true]) ∧ w = w' := by
  have hd0 := lg_nonneg a
  have hd1 := lg_le62 ha ha1
  have he0 := lg_nonneg b
  have he1 := lg_le62 hb hb1
  by_cases h : lg b < lg a
  · obtain ⟨h2, h3⟩ := lg_div ha (show 0 ≤ lg a - lg b by omega) (by omega)
    have h4 : a / pw (lg a - lg b) ≤ a := Int.ediv_le_self _ (by omega)
    have hm := meetI_down ha hb (lg a - lg b).toNat (by omega)
    rw [show (((lg a - lg b).toNat : Nat) : Int) = lg a - lg b by omega] at hm
    have hM := hide hm
    have h5 : Hid (lg (a / pw (lg a - lg b)) = lg b) := by show _ = _; omega
    clear hm h3
    generalize hd : lg a = d at *
    have hD := hide hd
    clear hd
    generalize he : lg b = f at *
    have hE := hide he
    clear he
    have hp : (2 : Int) ^ (d - f).toNat = pw (d - f) := rfl
    generalize hx : a / pw (d - f) = x0 at *
    have hX := hide hx
    go_enter Tryz.func189, Tryz.ntmps189
    go_wp2_with fail
    refine (depth_yes a _ ha ha1).mono ?_
    rw [hD.out]
    rintro e w' ⟨rfl, rfl⟩
    go_wp2_with fail
    refine (depth_yes b _ hb hb1).mono ?_
    rw [hE.out]
    rintro e w' ⟨rfl, rfl⟩
    go_wp2_with fail
    clear hx hp
    go_loop [0, 1] (fun x y => ∃ u v : Int, 1 ≤ u ∧ u ≤ a ∧ 1 ≤ v ∧ v ≤ b ∧ x = .int .i64 u ∧ y = .int .i64 v ∧ Hid (lg u = lg v) ∧ Hid (meetI a b = meetI u v)) (fun x _ => (intOf x).toNat)
    case atStart => exact ⟨x0, b, by omega, by omega, hb, by omega, rfl, rfl, h5.out.trans hE.out.symm, hM.out⟩
    case round =>
      obtain ⟨u, v, hu0, hu1, hv0, hv1, rfl, rfl, hl, hm⟩ := hrel
      by_cases hne : u = v
      · subst hne
        have hs := hide (meetI_same u (by omega))
        go_wp2
        go_ret2
        exact ⟨ret2 (int_congr (by rw [hm.out, hs.out])) rfl, rfl⟩
      · obtain ⟨h2, h3, h4, h5⟩ := meetI_half hu0 hv0 hne hl.out
        have h4 := hide h4
        have h5 := hide h5
        have hn : (u != v) = true := by simpa using hne
        clear hne
        go_wp2
        go_round
        case rel => exact ⟨u / 2, v / 2, by omega, by omega, by omega, by omega, rfl, rfl, h5, hm.out.trans h4.out⟩
        case measure => simp [intOf]; omega
  · obtain ⟨h2, h3⟩ := lg_div hb (show 0 ≤ lg b - lg a by omega) (by omega)
    have h4 : b / pw (lg b - lg a) ≤ b := Int.ediv_le_self _ (by omega)
    have hm := meetI_down hb ha (lg b - lg a).toNat (by omega)
    rw [show (((lg b - lg a).toNat : Nat) : Int) = lg b - lg a by omega] at hm
    have hM : Hid (meetI a b = meetI a (b / pw (lg b - lg a))) := by
      show _ = _
      rw [meetI_comm a b (by omega) (by omega), hm, meetI_comm _ a (by omega) (by omega)]
    have h5 : Hid (lg a = lg (b / pw (lg b - lg a))) := by show _ = _; omega
    clear hm h3
    generalize hd : lg a = d at *
    have hD := hide hd
    clear hd
    generalize he : lg b = f at *
    have hE := hide he
    clear he
    have hp : (2 : Int) ^ (f - d).toNat = pw (f - d) := rfl
    generalize hx : b / pw (f - d) = x0 at *
    have hX := hide hx
    go_enter Tryz.func189, Tryz.ntmps189
    go_wp2_with fail
    refine (depth_yes a _ ha ha1).mono ?_
    rw [hD.out]
    rintro e w' ⟨rfl, rfl⟩
    go_wp2_with fail
    refine (depth_yes b _ hb hb1).mono ?_
    rw [hE.out]
    rintro e w' ⟨rfl, rfl⟩
    go_wp2_with fail
    clear hx hp
    go_loop [0, 1] (fun x y => ∃ u v : Int, 1 ≤ u ∧ u ≤ a ∧ 1 ≤ v ∧ v ≤ b ∧ x = .int .i64 u ∧ y = .int .i64 v ∧ Hid (lg u = lg v) ∧ Hid (meetI a b = meetI u v)) (fun x _ => (intOf x).toNat)
    case atStart => exact ⟨a, x0, by omega, by omega, by omega, by omega, rfl, rfl, hD.out.trans h5.out, hM.out⟩
    case round =>
      obtain ⟨u, v, hu0, hu1, hv0, hv1, rfl, rfl, hl, hm⟩ := hrel
      by_cases hne : u = v
      · subst hne
        have hs := hide (meetI_same u (by omega))
        go_wp2
        go_ret2
        exact ⟨ret2 (int_congr (by rw [hm.out, hs.out])) rfl, rfl⟩
      · obtain ⟨h2, h3, h4, h5⟩ := meetI_half hu0 hv0 hne hl.out
        have h4 := hide h4
        have h5 := hide h5
        have hn : (u != v) = true := by simpa using hne
        clear hne
        go_wp2
        go_round
        case rel => exact ⟨u / 2, v / 2, by omega, by omega, by omega, by omega, rfl, rfl, h5, hm.out.trans h4.out⟩
        case measure => simp [intOf]; omega
theorem meet_c (a b : Int) (w : World) (ha1 : a ≤ 9223372036854775807) (hb1 : b ≤ 9223372036854775807) :
    Calls Tryz.prog 189 #[.int .i64 a, .int .i64 b] w fun e w' => e = .returned (nb (meetF a b)) ∧ w = w' := by
  by_cases ha : 1 ≤ a
  · by_cases hb : 1 ≤ b
    · rw [meetF_eq ha hb]; exact meet_yes a b w ha ha1 hb hb1
    · have hA : Hid (meetF a b = (0, false)) := if_neg fun k => hb k.2
      go_enter Tryz.func189, Tryz.ntmps189
      go_wp2_with fail
      refine (depth_yes a _ ha ha1).mono ?_
      rintro e w' ⟨rfl, rfl⟩
      go_wp2_with fail
      refine (depth_no b _ (by omega)).mono ?_
      rintro e w' ⟨rfl, rfl⟩
      go_wp2_with fail
      go_ret2
      exact ⟨by rw [hA.out]; rfl, rfl⟩
  · have hA : Hid (meetF a b = (0, false)) := if_neg fun k => ha k.1
    go_enter Tryz.func189, Tryz.ntmps189
    go_wp2_with fail
    refine (depth_no a _ (by omega)).mono ?_
    rintro e w' ⟨rfl, rfl⟩
    go_wp2_with fail
    refine (depth_c b _ hb1).mono ?_
    rintro e w' ⟨rfl, rfl⟩
    go_wp2_with fail
    go_ret2
    exact ⟨by rw [hA.out]; rfl, rfl⟩
end Go.Proofs.YteebghoijaaakaaGreat

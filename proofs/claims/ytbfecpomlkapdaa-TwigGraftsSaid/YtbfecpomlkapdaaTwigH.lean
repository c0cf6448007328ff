/- The walks of the laws of layer 2 without the document's answer: TwigHolds, TwigGrafts. By the prover of this repo. -/
import Derived.Test.YtbfecpomlkapdaaTwigL
namespace Go.Proofs.Ytbfecpomlkapdaa
open Go.RowKit
open TwigM

set_option maxHeartbeats 1600000 in
theorem twigHolds_walk (l id x : Int) (w : World) (_hl : -9223372036854775808 ≤ l ∧ l ≤ 9223372036854775807) (hid : -9223372036854775808 ≤ id ∧ id ≤ 9223372036854775807) (hx : -9223372036854775808 ≤ x ∧ x ≤ 9223372036854775807) :
    Calls Try.prog 5 #[.int .i64 l, .int .i64 id, .int .i64 x] w fun e w' => e = .returned (.bool true) ∧ Below w.heap.size w w' := by
  by_cases hr : 1 ≤ l ∧ l ≤ 48 ∧ 1 ≤ id ∧ id < 2 * pw l
  · obtain ⟨hl, hl2, h0, h1⟩ := hr
    have hp1 := pw_pos l
    have hp2 := pw_le48 hl2
    have hd0 := lg_nonneg id
    have hd1 := (lg_le h0 (show 0 ≤ l by omega)).2 h1
    have hb1 := pw_pos (l - lg id)
    have hbd : 0 ≤ loF l id ∧ loF l id + pw (l - lg id) ≤ pw l := by
      have hs := lg_spec h0
      have hpr : pw (lg id) * pw (l - lg id) = pw l := by rw [← pw_add hd0 (by omega)]; congr 1; omega
      have e : (id - pw (lg id)) * pw (l - lg id) + pw (l - lg id) = (id - pw (lg id) + 1) * pw (l - lg id) := by rw [Int.add_mul, Int.one_mul]
      constructor
      · exact Int.mul_nonneg (by omega) (by omega)
      · show (id - pw (lg id)) * pw (l - lg id) + pw (l - lg id) ≤ pw l
        rw [e, ← hpr]
        exact Int.mul_le_mul_of_nonneg_right (by omega) (by omega)
    have hal : Hid (0 ≤ x → x < pw l → (aboveB id (pw l + x) = true ↔ loF l id ≤ x ∧ x ≤ loF l id + pw (l - lg id) - 1)) := fun a b => above_leaf hl h0 h1 a b
    have hkf : Hid (id < pw l → _) := fun h => kids_facts hl h0 h
    have hend := hide (fun W => ends_yes l id W hl hl2 h0 h1)
    have H1 := hide h1
    obtain ⟨hb2, hb3⟩ := hbd
    generalize hlo : loF l id = lo at *
    generalize hwd : pw (l - lg id) = q at *
    have hLO := hide hlo
    have hWD := hide hwd
    clear hlo hwd hd0 hd1
    go_enter Try.func5, Try.ntmps5
    go_wp2_with fail
    refine (hend.out _).mono ?_
    rintro e w' ⟨rfl, n, rfl⟩
    go_wp2_with fail
    refine (right_yes l id _ hl hl2 h0 H1.out).mono ?_
    rintro e w' ⟨rfl, rfl⟩
    go_wp2_with fail
    refine (kids_c l id _).mono ?_
    rintro e w' ⟨rfl, rfl⟩
    go_upto_if 51 with (fail)
    go_cut [10, 11, 12] from 44 to 87 (fun _ _ _ wc => ∃ n, wc = w.drewN n)
    case first =>
      by_cases hk : id < pw l
      · obtain ⟨a1, a2, a3, a4, a5, a6, a7, a8⟩ := hkf.out hk
        have hK : kidsF l id = (2 * id, 2 * id + 1, true) := if_pos ⟨right_iff.2 ⟨hl, hl2, h0, H1.out⟩, hk⟩
        simp only [hK]
        have hq1 := pw_pos (l - (lg id + 1))
        have e1 := fun W => ends_yes l (2 * id) W hl hl2 (by omega) a1
        have e2 := fun W => ends_yes l (2 * id + 1) W hl hl2 (by omega) a2
        rw [a6, a3] at e1
        rw [a7, a4] at e2
        generalize pw (l - (lg id + 1)) = q1 at *
        have E1 := hide e1
        have E2 := hide e2
        have hq2 : q = 2 * q1 := a8
        clear hK a1 a2 a3 a4 a5 a6 a7 a8 e1 e2
        subst hq2
        go_wp2_with fail
        refine (E1.out _).mono ?_
        rintro e w' ⟨rfl, n1, rfl⟩
        go_wp2_with fail
        refine (E2.out _).mono ?_
        rintro e w' ⟨rfl, n2, rfl⟩
        have t1 : (lo + q1 + q1 - 1 != lo + 2 * q1 - 1) = false := by rw [bne_eq_false_iff_eq]; omega
        go_wp2_with fail
        go_meet
        case rel => exact ⟨_, rfl⟩
      · have hK : kidsF l id = (0, 0, false) := if_neg fun k => hk k.2
        simp only [hK]
        clear hK
        go_wp2_with fail
        go_meet
        case rel => exact ⟨_, rfl⟩
    case rest =>
      obtain ⟨n3, rfl⟩ := hcut
      have hlf := hide (fun W => leaf_c l x W hx.2)
      by_cases hx0 : 0 ≤ x ∧ x < pw l
      · obtain ⟨hx0, hx1⟩ := hx0
        have hF : leafF l x = (pw l + x, true) := if_pos ⟨hl, hl2, hx0, hx1⟩
        rw [hF] at hlf
        have hab := hal.out hx0 hx1
        clear hF
        by_cases hy : lo ≤ x
        · by_cases hy2 : x ≤ lo + q - 1
          · have hA := hide (hab.2 ⟨hy, hy2⟩)
            clear hab
            go_wp2_with fail
            refine (hlf.out _).mono ?_
            rintro e w' ⟨rfl, rfl⟩
            go_wp2_with fail
            refine (above_c id (pw l + x) _ hid.2 (by omega)).mono ?_
            rw [hA.out]
            rintro e w' ⟨rfl, rfl⟩
            go_wp2_with fail
            refine (alive02 _).mono ?_
            rintro e w5 ⟨rfl, hb5⟩
            go_wp2_with fail
            go_ret
            exact ⟨rfl, bthen (below_n _) hb5⟩
          · have hA : Hid (aboveB id (pw l + x) = false) := by show _ = _; simpa [hy2] using hab
            clear hab
            go_wp2_with fail
            refine (hlf.out _).mono ?_
            rintro e w' ⟨rfl, rfl⟩
            go_wp2_with fail
            refine (above_c id (pw l + x) _ hid.2 (by omega)).mono ?_
            rw [hA.out]
            rintro e w' ⟨rfl, rfl⟩
            go_wp2_with fail
            refine (alive02 _).mono ?_
            rintro e w5 ⟨rfl, hb5⟩
            go_wp2_with fail
            go_ret
            exact ⟨rfl, bthen (below_n _) hb5⟩
        · have hA : Hid (aboveB id (pw l + x) = false) := by show _ = _; simpa [hy] using hab
          clear hab
          go_wp2_with fail
          refine (hlf.out _).mono ?_
          rintro e w' ⟨rfl, rfl⟩
          go_wp2_with fail
          refine (above_c id (pw l + x) _ hid.2 (by omega)).mono ?_
          rw [hA.out]
          rintro e w' ⟨rfl, rfl⟩
          go_wp2_with fail
          refine (alive02 _).mono ?_
          rintro e w5 ⟨rfl, hb5⟩
          go_wp2_with fail
          go_ret
          exact ⟨rfl, bthen (below_n _) hb5⟩
      · have hF : leafF l x = (0, false) := if_neg fun k => hx0 ⟨k.2.2.1, k.2.2.2⟩
        rw [hF] at hlf
        clear hF hx0
        go_wp2_with fail
        refine (hlf.out _).mono ?_
        rintro e w' ⟨rfl, rfl⟩
        go_wp2_with fail
        refine (alive02 _).mono ?_
        rintro e w5 ⟨rfl, hb5⟩
        go_wp2_with fail
        go_ret
        exact ⟨rfl, bthen (below_n _) hb5⟩
  · have hr := hide hr
    go_enter Try.func5, Try.ntmps5
    go_wp2_with fail
    refine (ends_no l id _ hr.out).mono ?_
    rintro e w' ⟨rfl, rfl⟩
    go_wp2_with fail
    refine (right_no l id _ hr.out).mono ?_
    rintro e w' ⟨rfl, rfl⟩
    go_wp2_with fail
    refine (alive02 _).mono ?_
    rintro e w1 ⟨rfl, hb1⟩
    go_wp2_with fail
    go_ret
    exact ⟨rfl, hb1⟩

set_option maxHeartbeats 1600000 in
theorem twigGrafts_walk (l id k : Int) (w : World) (_hl : -9223372036854775808 ≤ l ∧ l ≤ 9223372036854775807) (hid : -9223372036854775808 ≤ id ∧ id ≤ 9223372036854775807) (hk : -9223372036854775808 ≤ k ∧ k ≤ 9223372036854775807) :
    Calls Try.prog 7 #[.int .i64 l, .int .i64 id, .int .i64 k] w fun e w' => e = .returned (.bool true) ∧ Below w.heap.size w w' := by
  by_cases hr : 1 ≤ l ∧ l ≤ 48 ∧ 1 ≤ id ∧ id < 2 * pw l
  · obtain ⟨hl, hl2, h0, h1⟩ := hr
    have H1 := hide h1
    have hp1 := pw_pos l
    have hp2 := pw_le48 hl2
    have hb1 := pw_pos (l - lg id)
    have hbd : 0 ≤ loF l id ∧ loF l id + pw (l - lg id) ≤ pw l := by
      have hd0 := lg_nonneg id
      have hd1 := (lg_le h0 (show 0 ≤ l by omega)).2 h1
      have hs := lg_spec h0
      have hpr : pw (lg id) * pw (l - lg id) = pw l := by rw [← pw_add hd0 (by omega)]; congr 1; omega
      have e : (id - pw (lg id)) * pw (l - lg id) + pw (l - lg id) = (id - pw (lg id) + 1) * pw (l - lg id) := by rw [Int.add_mul, Int.one_mul]
      constructor
      · exact Int.mul_nonneg (by omega) (by omega)
      · show (id - pw (lg id)) * pw (l - lg id) + pw (l - lg id) ≤ pw l
        rw [e, ← hpr]
        exact Int.mul_le_mul_of_nonneg_right (by omega) (by omega)
    have hend := hide (fun W => ends_yes l id W hl hl2 h0 h1)
    by_cases hk0 : 0 ≤ k ∧ k ≤ 48
    · obtain ⟨hk0, hk1⟩ := hk0
      have hgf : Hid (k ≤ 48 - l → ∃ g, graftF id k = (g, true) ∧ g ≤ 9223372036854775807 ∧ ∀ W, Calls Try.prog 25 #[.int .i64 (l + k), .int .i64 g] W fun e w' => e = .returned (.tuple #[.int .i64 (loF l id), .int .i64 (loF l id + pw (l - lg id) - 1), .bool true]) ∧ ∃ n, w' = W.drewN n) := by
        intro hh
        obtain ⟨g1, g2, g3, g4, g5⟩ := graft_facts hl h0 h1 hk0
        have hd1 := (lg_le h0 (show 0 ≤ l by omega)).2 h1
        refine ⟨id - pw (lg id) + pw (lg id + k), if_pos ⟨h0, hk0, by omega⟩, ?_, fun W => ?_⟩
        · have := pw_le48 (show l + k ≤ 48 by omega)
          omega
        · have e := ends_yes (l + k) (id - pw (lg id) + pw (lg id + k)) W (by omega) (by omega) g1 g2
          rw [g3, g4, g5] at e
          exact e
      have hpf : Hid (k < l → ∃ c, pruneF id (l - k) = (c, true) ∧ c ≤ 9223372036854775807 ∧ ∀ W, Calls Try.prog 25 #[.int .i64 (l - k), .int .i64 c] W fun e w' => e = .returned (.tuple #[.int .i64 (loF l id / pw k), .int .i64 ((loF l id + pw (l - lg id) - 1) / pw k), .bool true]) ∧ ∃ n, w' = W.drewN n) := by
        intro hh
        have hP : pruneF id (l - k) = (id / pw (lg id - (l - k)), true) := if_pos ⟨h0, by omega⟩
        by_cases hd : lg id ≤ l - k
        · obtain ⟨e1, e2⟩ := prune_same h0 hk0 hd
          rw [pw_neg (show lg id - (l - k) ≤ 0 by omega), Int.ediv_one] at hP
          refine ⟨id, hP, hid.2, fun W => ?_⟩
          have e := ends_yes (l - k) id W (by omega) (by omega) h0 ((lg_le h0 (by omega)).1 hd)
          rw [← e1, show l - k - lg id = l - k - lg id from rfl] at e
          rw [e2, ← e1]
          exact e
        · obtain ⟨a1, a2, a3, a4, a5⟩ := prune_less h0 h1 hk0 hh (by omega)
          refine ⟨_, hP, ?_, fun W => ?_⟩
          · have := pw_le48 (show l - k ≤ 48 by omega); omega
          · have e := ends_yes (l - k) _ W (by omega) (by omega) a1 a3
            rw [a2, ← a4] at e
            rw [a5, ← a4]
            exact e
      have hpk : (2 : Int) ^ k.toNat = pw k := rfl
      have hpk1 := pw_pos k
      obtain ⟨hb2, hb3⟩ := hbd
      have hq1 : 0 ≤ loF l id / pw k := Int.ediv_nonneg (by omega) (by omega)
      have hq2 : 0 ≤ (loF l id + pw (l - lg id) - 1) / pw k := Int.ediv_nonneg (by omega) (by omega)
      generalize loF l id = lo at *
      generalize pw (l - lg id) = q at *
      go_enter Try.func7, Try.ntmps7
      go_wp2_with fail
      refine (hend.out _).mono ?_
      rintro e w' ⟨rfl, n, rfl⟩
      go_upto_if 41 with (fail)
      go_cut [] from 21 to 72 (fun wc => ∃ n, wc = w.drewN n)
      case first =>
        by_cases hc : k ≤ 48 - l
        · obtain ⟨g, hG, hg, hE⟩ := hgf.out hc
          have HE := hide hE
          have HG := hide hG
          clear hE hG
          go_wp2_with fail
          refine (graft_c id k _ hid.2 hk.2 hk.1).mono ?_
          rw [HG.out]
          rintro e w' ⟨rfl, n1, rfl⟩
          go_wp2_with fail
          refine (HE.out _).mono ?_
          rintro e w' ⟨rfl, n2, rfl⟩
          go_wp2_with fail
          go_meet
          case rel => exact ⟨_, rfl⟩
        · go_wp2_with fail
          go_meet
          case rel => exact ⟨_, rfl⟩
      case rest =>
        obtain ⟨n3, rfl⟩ := hcut
        by_cases hc : k < l
        · obtain ⟨c, hC, hc0, hE⟩ := hpf.out hc
          have HE := hide hE
          have HC := hide hC
          clear hE hC
          go_wp2_with fail
          refine (prune_c id (l - k) _ hid.2 (by omega)).mono ?_
          rw [HC.out]
          rintro e w' ⟨rfl, rfl⟩
          go_wp2_with fail
          refine (HE.out _).mono ?_
          rintro e w' ⟨rfl, n2, rfl⟩
          go_wp2_with fail
          refine (alive02 _).mono ?_
          rintro e w5 ⟨rfl, hb5⟩
          go_wp2_with fail
          go_ret
          exact ⟨rfl, bthen (below_n _) hb5⟩
        · go_wp2_with fail
          refine (alive02 _).mono ?_
          rintro e w5 ⟨rfl, hb5⟩
          go_wp2_with fail
          go_ret
          exact ⟨rfl, bthen (below_n _) hb5⟩
    · clear hbd hb1 hp1 hp2
      by_cases hk1 : k < 0
      · go_enter Try.func7, Try.ntmps7
        go_wp2_with fail
        refine (hend.out _).mono ?_
        rintro e w' ⟨rfl, n, rfl⟩
        go_wp2_with fail
        refine (alive02 _).mono ?_
        rintro e w5 ⟨rfl, hb5⟩
        go_wp2_with fail
        go_ret
        exact ⟨rfl, bthen (below_n _) hb5⟩
      · have hk2 : 48 < k := by omega
        clear hk0
        go_enter Try.func7, Try.ntmps7
        go_wp2_with fail
        refine (hend.out _).mono ?_
        rintro e w' ⟨rfl, n, rfl⟩
        go_wp2_with fail
        refine (alive02 _).mono ?_
        rintro e w5 ⟨rfl, hb5⟩
        go_wp2_with fail
        go_ret
        exact ⟨rfl, bthen (below_n _) hb5⟩
  · have hr := hide hr
    go_enter Try.func7, Try.ntmps7
    go_wp2_with fail
    refine (ends_no l id _ hr.out).mono ?_
    rintro e w' ⟨rfl, rfl⟩
    go_wp2_with fail
    refine (alive02 _).mono ?_
    rintro e w1 ⟨rfl, hb1⟩
    go_wp2_with fail
    go_ret
    exact ⟨rfl, hb1⟩
end Go.Proofs.Ytbfecpomlkapdaa

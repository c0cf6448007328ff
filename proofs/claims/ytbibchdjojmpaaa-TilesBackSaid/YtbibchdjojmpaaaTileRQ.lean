/- The walks of layer 5's reference, on: Join, Rest, Right, Holds, Count. By the prover of this repo. -/
import Derived.Test.YtbibchdjojmpaaaTileRN
namespace Go.Proofs.Ytbibchdjojmpaaa
open Go.RowKit
open TwigM TileM

theorem runL_ok {L : Int} {l : List Int} (h : allB L l = true) : runL L l = runsGo L [] l := by
  unfold allB at h
  rw [Bool.and_eq_true] at h
  unfold runL
  rw [if_pos h.1]
set_option maxRecDepth 100000 in
theorem ref05_join (L : Int) (A : Option Addr) (c : Nat) (l : List Int) (w : World) (hr : Rd w A l.length 1 (ic l)) (hl : l.length ≤ 10000) (hwf : ItWf l) :
    Calls Try.prog 23 #[.int .i64 L, .slice A l.length c] w fun e w' => ∃ v, e = .returned (.tuple #[v, .bool (allB L l)]) ∧ Its w' v (joinL L l) ∧ Below w.heap.size w w' := by
  have hR := hide (ref05_runs L A c l w hr hl hwf)
  have hrl := runsGo_length L l []
  obtain ⟨n, hn⟩ : ∃ n, Hid (l.length = n) := ⟨_, rfl⟩
  cases hq : allB L l
  · have e : joinL L l = [] := by unfold joinL; rw [hq]; rfl
    rw [e]
    rw [hq, hn.out] at hR
    rw [hn.out]
    clear e hq hr
    go_enter Try.func23, Try.ntmps23
    go_wp2_with (go_at_call 50; refine hR.out.mono ?_; rintro e w1 ⟨v1, rfl, hv1, hb1⟩; have hv1 := hide hv1; have hb1 := hide hb1)
    go_ret2
    exact ⟨_, rfl, Its.nil _, hb1.out⟩
  · obtain ⟨hL1, hL2, hN⟩ := nd_of_all hq
    have e : Hid (joinL L l = layR L (runsGo L [] l)) := by show _ = _; unfold joinL; rw [hq]; rfl
    have hok := runs_ok hN
    rw [hq, hn.out, runL_ok hq] at hR
    have hY := fun A c W h => ref05_lay L A c (runsGo L [] l) W h (by simp at hrl; omega) hL1 hL2 hok.2.2 hok.1.le
    generalize runsGo L [] l = R at *
    replace hY := hide hY
    rw [hn.out]
    clear hq hr hok hN hrl
    go_enter Try.func23, Try.ntmps23
    go_wp2_with (first
      | (go_at_call 50; refine hR.out.mono ?_; rintro e w1 ⟨v1, rfl, hv1, hb1⟩; obtain ⟨Ar, cr, rfl, hr1, hr2, hr3, hr4⟩ := hv1; have hr4 := hide hr4; have hb1 := hide hb1)
      | (go_at_call 51; refine (hY.out _ _ _ hr4.out).mono ?_; rintro e w2 ⟨v2, rfl, hv2, hb2⟩; have hv2 := hide hv2; have hb2 := hide hb2))
    go_ret2
    exact ⟨_, rfl, by rw [e.out]; exact hv2.out, bthen hb1.out hb2.out⟩

set_option maxRecDepth 100000 in
set_option maxHeartbeats 2000000 in
theorem ref05_rest (L : Int) (A : Option Addr) (c : Nat) (l : List Int) (w : World) (hr : Rd w A l.length 1 (ic l)) (hl : l.length ≤ 10000) (hwf : ItWf l) :
    Calls Try.prog 25 #[.int .i64 L, .slice A l.length c] w fun e w' => ∃ v, e = .returned (.tuple #[v, .bool (allB L l)]) ∧ Its w' v (restL L l) ∧ Below w.heap.size w w' := by
  have hR := hide (ref05_runs L A c l w hr hl hwf)
  have hrl := runsGo_length L l []
  obtain ⟨n, hn⟩ : ∃ n, Hid (l.length = n) := ⟨_, rfl⟩
  cases hq : allB L l
  · have e : restL L l = [] := by unfold restL; rw [hq]; rfl
    rw [e]
    rw [hq, hn.out] at hR
    rw [hn.out]
    clear e hq hr
    go_enter Try.func25, Try.ntmps25
    go_wp2_with (go_at_call 50; refine hR.out.mono ?_; rintro e w1 ⟨v1, rfl, hv1, hb1⟩; have hv1 := hide hv1; have hb1 := hide hb1)
    go_ret2
    exact ⟨_, rfl, Its.nil _, hb1.out⟩
  · obtain ⟨hL1, hL2, hN⟩ := nd_of_all hq
    have e : Hid (restL L l = layR L (restR L 0 (runsGo L [] l))) := by show _ = _; unfold restL; rw [hq]; rfl
    have hok := runs_ok hN
    have hpw := pw_pos L
    have hpw2 := pw_le48 hL2
    have hFr := runs_from _ 0 hok.1 hok.2.2 (Int.le_refl _) (by omega) (fun r hr => (hok.2.2 r hr).1)
    obtain ⟨f1, f2, _⟩ := restR_facts _ hFr
    rw [hq, hn.out, runL_ok hq] at hR
    generalize runsGo L [] l = R at *
    have hG : Hid ([] ++ restR L 0 (R.drop 0) = restR L 0 R) := by show _ = _; rw [List.drop_zero]; rfl
    have hle := f1.le
    generalize restR L 0 R = G at *
    have hY := hide (fun A c W h hl => ref05_lay L A c G W h hl hL1 hL2 f2 hle)
    have hP := hide (fun W => rpower L W (by omega))
    have hFr : Hid (From L 0 (R.drop 0)) := by show From _ _ _; rw [List.drop_zero]; exact hFr
    rw [hn.out] at hl hrl ⊢
    rw [List.length_nil] at hrl
    clear hq hr hok hN f1 f2 hle
    go_enter Try.func25, Try.ntmps25
    go_wp2_with (go_at_call 50; refine hR.out.mono ?_; rintro e w1 ⟨v1, rfl, hv1, hb1⟩; obtain ⟨Ar, cr, rfl, hr1, hr2, hr3, hr4⟩ := hv1; have hr4 := hide hr4; have hb1 := hide hb1)
    obtain ⟨m, hm⟩ : ∃ m, Hid (R.length = m) := ⟨_, rfl⟩
    rw [hm.out] at hrl hr1 hr2 ⊢
    go_loopw [8, 9, 10] (fun out from_ idx wr => ∃ (i : Nat) (acc : List Run) (x : Int), idx = .int .i64 i ∧ from_ = .int .i64 x ∧ i ≤ m ∧ acc.length ≤ i ∧ From L x (R.drop i) ∧ wr.ownsRow w1.heap.size 65 2 out acc.length (rnv acc) ∧ Hid (acc ++ restR L x (R.drop i) = G) ∧ Below w1.heap.size w1 wr) (fun _ _ idx _ => m - (intOf idx).toNat)
    case atStart => exact ⟨0, [], 0, rfl, rfl, Nat.zero_le _, Nat.le_refl _, hFr.out, World.ownsRow_nil _ _ _ _, hG, Below.refl _ _⟩
    case round =>
      clear hR hG hFr
      obtain ⟨i, acc, x, rfl, rfl, hin, hai, hFr, how, hgo, hbel⟩ := hrel
      obtain ⟨Ao, co, rfl, ho1, ho2, ho3⟩ := own_form how
      obtain ⟨k, hk⟩ : ∃ k, Hid (acc.length = k) := ⟨_, rfl⟩
      rw [hk.out] at hai how ho1 ho2 ⊢
      have hx := From.le _ _ hFr
      have hz := hbel.size
      by_cases hlt : i < m
      · have hil : i < R.length := by rw [hm.out]; exact hlt
        obtain ⟨b, off, rfl, hbs0, _, _⟩ := rn_at hr4.out hil
        obtain ⟨b', off', ee, hbs, c0, c1⟩ := rn_at (hr4.out.of_below (Nat.le_refl _) hbel) hil
        injection ee with ee
        injection ee with ee1 ee2
        subst ee1 ee2
        rw [List.drop_eq_getElem_cons hil] at hgo hFr
        rw [restR] at hgo
        generalize R[i] = r at *
        obtain ⟨p, q⟩ := r
        obtain ⟨g1, g2, g3, g4⟩ := hFr
        simp only [] at c0 c1 hgo g2 g3 g4
        have g5 := From.le _ _ g4
        have how := hide how
        have hbel := hide hbel
        by_cases hxp : x < p
        · rw [if_pos hxp] at hgo
          have hgo2 : Hid ((acc ++ [(x, p - 1)]) ++ restR L (q + 1) (R.drop (i + 1)) = G) := by show _ = _; rw [List.append_assoc]; exact hgo.out
          clear hgo
          go_wp2_with (at_builtin; refine wpList_app1 elRun rfl (.tmp 32) (.tmp 41) rfl w1.heap.size _ _ _ [.int .i64 x, .int .i64 (p - 1)] 65 rfl how.out rfl rfl (one2 rfl rfl) (by omega) hz ?_; intro v3 w3 how3 hb3 hgr3 hat3; have d1 := (hb3.cell (p := ⟨b, off + i * 2 + 1, none⟩) (show b < w1.heap.size from hbs0)).trans c1; have d2 := Nat.lt_of_lt_of_le hbs hb3.size; have how3 := hide how3; have hb3 := hide hb3; clear hgr3 hat3)
          go_roundw
          case rel => exact ⟨i + 1, acc ++ [(x, p - 1)], q + 1, rfl, rfl, by omega, by rw [List.length_append, hk.out]; simp; omega, g4, own_rapp1 hk.out how3.out, hgo2, hbel.out.trans hb3.out⟩
          case measure => simp [intOf]; omega
        · rw [if_neg hxp, List.nil_append] at hgo
          go_wp2_with fail
          go_roundw
          case rel => exact ⟨i + 1, acc, q + 1, rfl, rfl, by omega, by rw [hk.out]; omega, g4, by rw [hk.out]; exact how.out, hgo, hbel.out⟩
          case measure => simp [intOf]; omega
      · have hd : R.drop i = [] := List.drop_of_length_le (by rw [hm.out]; omega)
        rw [hd, restR] at hgo
        have how := hide how
        have hbel := hide hbel
        by_cases hxp : x < pw L
        · rw [if_pos hxp] at hgo
          go_wp2_with (first
            | (go_at_call 42; refine (hP.out _).mono ?_; rintro e w2 ⟨rfl, rfl⟩)
            | (at_builtin; refine wpList_app1 elRun rfl (.tmp 53) (.tmp 59) rfl w1.heap.size _ _ _ [.int .i64 x, .int .i64 (pw L - 1)] 65 rfl how.out rfl rfl (one2 rfl rfl) (by omega) hz ?_; intro v3 w3 how3 hb3 hgr3 hat3; have how3 := own_rapp1 hk.out how3; rw [hgo.out] at how3; obtain ⟨A3, c3, rfl, y1, y2, y3, y4⟩ := own_rns rfl how3; have hgl : G.length ≤ 100000 := (by rw [← hgo.out, List.length_append, hk.out]; simp; omega); have hz3 := hb3.size; have y4 := hide y4; have hb3 := hide hb3; clear hgr3 hat3 how3)
            | (go_at_call 51; refine (hY.out _ _ _ y4.out hgl).mono ?_; rintro e w2 ⟨v2, rfl, hv2, hb2⟩; have hv2 := hide hv2; have hb2 := hide hb2))
          go_ret2
          exact ⟨_, rfl, by rw [e.out]; exact hv2.out, bthen (hb1.out.trans ((hbel.out.trans hb3.out).mono hb1.out.size)) hb2.out⟩
        · rw [if_neg hxp, List.append_nil] at hgo
          have how3 := own_rns hk.out how.out
          rw [hgo.out] at how3
          obtain ⟨A3, c3, ev, y1, y2, y3, y4⟩ := how3
          injection ev with e1 e2 e3
          subst e1 e3
          have hgl : G.length ≤ 100000 := by rw [← hgo.out, hk.out]; omega
          have hY2 := hY.out Ao co _ y4 hgl
          rw [← e2] at hY2
          replace hY2 := hide hY2
          replace y4 := hide y4
          clear hgl e2
          go_wp2_with (first
            | (go_at_call 42; refine (hP.out _).mono ?_; rintro e w2 ⟨rfl, rfl⟩)
            | (go_at_call 51; refine hY2.out.mono ?_; rintro e w2 ⟨v2, rfl, hv2, hb2⟩; have hv2 := hide hv2; have hb2 := hide hb2))
          go_ret2
          exact ⟨_, rfl, by rw [e.out]; exact hv2.out, bthen (hb1.out.trans (hbel.out.mono hb1.out.size)) hb2.out⟩
end Go.Proofs.Ytbibchdjojmpaaa

/- Layer 5: the law TilesBack, walked. By the prover of this repo. -/
import Derived.Test.YtbibchdjojmpaaaTileLB
namespace Go.Proofs.Ytbibchdjojmpaaa
open Go.RowKit
open TwigM TileM

/-- What the law asks of nodes, in plain words. -/
structure BackFacts (l : Int) (z S R : List Int) (x m n : Int) (p q is : Bool) : Prop where
  all1 : allB l z.reverse = true
  all2 : allB l S = true
  all3 : allB l R = true
  t : joinL l z.reverse = S
  u : joinL l S = S
  back : restL l R = S
  cm : countF l S = (m, true)
  cn : countF l R = (n, true)
  sum : m + n = pw l
  mb : 0 ≤ m ∧ m ≤ 281474976710656
  nb : 0 ≤ n ∧ n ≤ 281474976710656
  hs : holdsB l S x = p
  hq : holdsB l R x = q
  isx : is = decide (0 ≤ x ∧ x < pw l)
  eq : (is == (p != q)) = true
  ls : S.length ≤ 10000
  lr : R.length ≤ 10000
theorem holdsB_cov {L x : Int} {l : List Int} (h : allB L l = true) : holdsB L l x = true ↔ Cov L l x := by
  obtain ⟨hL1, hL2, hN⟩ := nd_of_all h
  rw [holds_same, holdsR, h, Bool.true_and, runL_ok h, any_held]
  exact (runs_ok hN).2.1 x
theorem back_facts (l : Int) (z : List Int) (x : Int) (h : allB l z = true) (hz : z.length ≤ 60) : ∃ m n p q is, BackFacts l z (joinL l z) (restL l z) x m n p q is := by
  obtain ⟨hL1, hL2, hN⟩ := nd_of_all h
  have hS := joinR_canon hL1 hL2 hN
  have hR := restT_canon hL1 hL2 hN
  have eS : joinL l z = joinR l z := by unfold joinL; rw [h]; rfl
  have eR : restL l z = restT l z := by unfold restL; rw [h]; rfl
  rw [eS, eR]
  have aS := all_right hL1 hL2 hS.nd
  have aR := all_right hL1 hL2 hR.nd
  have hNr : ∀ t ∈ z.reverse, Nd l t := fun t ht => hN t (by simpa using ht)
  have aT := all_right hL1 hL2 hNr
  have et : joinL l z.reverse = joinR l z := by
    unfold joinL
    rw [if_pos aT]
    exact joinR_congr hL1 hL2 hNr hN (fun y => by unfold Cov; simp)
  have eu : joinL l (joinR l z) = joinR l z := by unfold joinL; rw [if_pos aS]; exact joinR_again hL1 hL2 hN
  have eb : restL l (restT l z) = joinR l z := by unfold restL; rw [if_pos aR]; exact rest_rest hL1 hL2 hN
  have em : countF l (joinR l z) = (sz l (joinR l z), true) := by unfold countF; rw [if_pos aS, joinR_again hL1 hL2 hN]
  have en : countF l (restT l z) = (sz l (joinR l (restT l z)), true) := by unfold countF; rw [if_pos aR]
  have hsum := both_sz hL1 hL2 hR.nd
  rw [rest_rest hL1 hL2 hN] at hsum
  have hm0 := sz_nonneg _ hS.nd
  have hn0 := sz_nonneg _ (joinR_canon hL1 hL2 hR.nd).nd
  have hpw := pw_le48 hL2
  have hh := both_hold hL1 hL2 hN x
  have cS := holdsB_cov (x := x) aS
  have cR := holdsB_cov (x := x) aR
  refine ⟨_, _, _, _, _, ⟨aT, aS, aR, et, eu, eb, em, en, by omega, ⟨hm0, by omega⟩, ⟨hn0, by omega⟩, rfl, rfl, rfl, ?_, ?_, ?_⟩⟩
  · cases h1 : holdsB l (joinR l z) x
    · cases h2 : holdsB l (restT l z) x
      · have : ¬ (0 ≤ x ∧ x < pw l) := fun k => by
          rcases hh.1.2 k with k | k
          · rw [cS.2 k] at h1; cases h1
          · rw [cR.2 k] at h2; cases h2
        rw [decide_eq_false this]; rfl
      · rw [decide_eq_true (hh.1.1 (.inr (cR.1 h2)))]; rfl
    · cases h2 : holdsB l (restT l z) x
      · rw [decide_eq_true (hh.1.1 (.inl (cS.1 h1)))]; rfl
      · exact absurd ⟨cS.1 h1, cR.1 h2⟩ hh.2
  · have := joinR_length hL1 hL2 hN
    omega
  · have hok := runs_ok hN
    have hpw := pw_pos l
    obtain ⟨f1, f2, _⟩ := restR_facts _ (runs_from _ 0 hok.1 hok.2.2 (Int.le_refl _) (by omega) (fun r hr => (hok.2.2 r hr).1))
    have := layR_length l _ f2 f1.le hL1 hL2
    have h7 := restR_length l (runsGo l [] z) 0
    have h8 := runsGo_length l z []
    simp only [List.length_nil] at h8
    show (layR l (restR l 0 (runsGo l [] z))).length ≤ _
    omega

set_option maxRecDepth 100000 in
set_option maxHeartbeats 4000000 in
theorem tilesBack_walk (l : Int) (A : Option Addr) (n c : Nat) (z : List Int) (x : Int) (w : World) (_hl : -9223372036854775808 ≤ l ∧ l ≤ 9223372036854775807) (hz : z.length = n) (hnc : n ≤ c) (hc : c ≤ maxLen)
    (r : Rd w A n 1 (fun i => .int .i64 (z.getD i 0))) (hb : ∀ x ∈ z, (Lit.int .i64 x).wf = true) (hx : -9223372036854775808 ≤ x ∧ x ≤ 9223372036854775807) :
    Calls Try.prog 9 #[.int .i64 l, .slice A n c, .int .i64 x] w fun e w' => e = .returned (.bool true) ∧ Below w.heap.size w w' := by
  by_cases h60 : n ≤ 60
  · have hr : Rd w A z.length 1 (ic z) := by rw [hz]; exact r
    have hA : A = none → z.length = 0 := fun h => by rw [hz]; exact rd_none r h
    have h1 := fun W (hW : Below w.heap.size w W) => tiles_join l A c z W (hr.kept hW) hA (by omega)
    have h2 := fun W (hW : Below w.heap.size w W) => tiles_rest l A c z W (hr.kept hW) hA (by omega)
    cases hq : allB l z
    · have e : joinL l z = [] := by unfold joinL; rw [hq]; rfl
      rw [hq, e, hz] at h1
      have h1 := hide (h1 _ (Below.refl _ _))
      clear h2 e hq hr hA r hb hz hnc hc hx
      go_enter Try.func9, Try.ntmps9
      go_wp2_with fail
      refine h1.out.mono ?_
      rintro e w1 ⟨v1, rfl, hv1, hb1⟩
      obtain ⟨A1, c1, rfl, hA1, hA2, hA3, hr1⟩ := hv1
      replace hb1 := hide hb1
      clear hr1
      simp only [List.length_nil] at hA1 hA2 ⊢
      go_wp2_with fail
      refine (alive05 _).mono ?_
      rintro e w3 ⟨rfl, hb3⟩
      go_wp2_with fail
      go_ret
      exact ⟨rfl, bthen hb1.out hb3⟩
    · obtain ⟨hL1, hL2, _⟩ := nd_of_all hq
      obtain ⟨m, k, p, q, is, F⟩ := back_facts l z x hq (by omega)
      rw [hq, hz] at h1 h2
      generalize joinL l z = S at *
      generalize restL l z = R at *
      have jt := fun A c W h hA => tiles_join l A c z.reverse W h hA (by simp; omega)
      have ju := fun A c W h hA => tiles_join l A c S W h hA (by have := F.ls; omega)
      have jb := fun A c W h hA => tiles_rest l A c R W h hA (by have := F.lr; omega)
      have jm := fun A c W h hA => tiles_count l A c S W h hA (by have := F.ls; omega)
      have jn := fun A c W h hA => tiles_count l A c R W h hA (by have := F.lr; omega)
      have js := fun A c W h => tiles_holds l x A c S W h (by have := F.ls; omega) hx.2
      have jr := fun A c W h => tiles_holds l x A c R W h (by have := F.lr; omega) hx.2
      rw [F.all1, F.t] at jt
      rw [F.all2, F.u] at ju
      rw [F.all3, F.back] at jb
      rw [F.cm] at jm
      rw [F.cn] at jn
      rw [F.hs] at js
      rw [F.hq] at jr
      have ss := hide (fun W u v => same_its S W u v (by have := F.ls; omega))
      have hsum := F.sum
      have hmb := F.mb
      have hkb := F.nb
      have hpw2 := pw_le48 hL2
      have hpw1 := pw_pos l
      have heq := F.eq
      have his := F.isx
      replace h1 := hide h1
      replace h2 := hide h2
      replace jt := hide jt
      replace ju := hide ju
      replace jb := hide jb
      replace jm := hide jm
      replace jn := hide jn
      replace js := hide js
      replace jr := hide jr
      have hrn : Hid (Rd w A n 1 (ic z)) := r
      have hzh := hide hz
      have hp : (2 : Int) ^ l.toNat = pw l := rfl
      clear F hq hr hA r hb hz
      go_enter Try.func9, Try.ntmps9
      go_wp2_with fail
      refine (h1.out _ (Below.refl _ _)).mono ?_
      rintro e w1 ⟨v1, rfl, hv1, hb1⟩
      obtain ⟨A1, c1, rfl, hA1, hA2, hA3, hr1⟩ := hv1
      replace hr1 := hide hr1
      replace hb1 := hide hb1
      replace hA1 := hide hA1
      obtain ⟨ns, hns⟩ : ∃ k, Hid (S.length = k) := ⟨_, rfl⟩
      have hA2h := hide hA2
      have hA3h := hide hA3
      clear hA2 hA3
      go_wp2_with fail
      go_loopw [9, 10] (fun out idx wr => ∃ (i : Nat), idx = .int .i64 ((i : Int) - 1) ∧ i ≤ n ∧ wr.ownsRow w1.heap.size 3 1 out (n - i) (iv (z.drop i).reverse) ∧ Below w1.heap.size w1 wr) (fun _ idx _ => (intOf idx + 1).toNat)
      case atStart => exact ⟨n, rfl, Nat.le_refl _, by rw [List.drop_of_length_le (by rw [hzh.out]; exact Nat.le_refl _), Nat.sub_self]; exact World.ownsRow_nil _ _ _ _, Below.refl _ _⟩
      case round =>
        obtain ⟨i, rfl, hin, how, hbel⟩ := hrel
        obtain ⟨Ao, co, rfl, ho1, ho2, ho3⟩ := own_form how
        have hz1 := hbel.size
        by_cases hi0 : i = 0
        · subst hi0
          rw [List.drop_zero, Nat.sub_zero] at how
          have hti := own_its (l := z.reverse) (by rw [List.length_reverse, hzh.out]) how
          obtain ⟨At, ct, et, hat1, hat2, hat3, hrt⟩ := hti
          injection et with et1 et2 et3
          subst et1 et3
          have h3 := hide (jt.out Ao co wr hrt hat1)
          rw [List.length_reverse, hzh.out] at h3
          have k1 := hide (hb1.out.trans (hbel.mono hb1.out.size))
          have r1 := hide (hr1.out.of_below (Nat.le_refl _) hbel)
          clear how hrt ho1 ho2 ho3 hat1 hat2 hat3 hbel et2
          go_wp2_with fail
          refine h3.out.mono ?_
          rintro e w2 ⟨v2, rfl, hv2, hb2⟩
          have k2 := hide (bthen k1.out hb2)
          have r2 := hide (r1.out.kept hb2)
          have h4 := hide (ju.out A1 c1 w2 r2.out hA1.out)
          replace hv2 := hide hv2
          clear hb2 k1 r1 h3
          go_wp2_with fail
          refine h4.out.mono ?_
          rintro e w3 ⟨v3, rfl, hv3, hb3⟩
          have k3 := hide (bthen k2.out hb3)
          have r3 := hide (r2.out.kept hb3)
          have y2 := hide (hv2.out.kept hb3)
          replace hv3 := hide hv3
          clear hb3 r2 h4 hv2
          go_wp2_with fail
          refine (h2.out _ k3.out).mono ?_
          rintro e w4 ⟨v4, rfl, hv4, hb4⟩
          have k4 := hide (bthen k3.out hb4)
          have r4 := hide (r3.out.kept hb4)
          have y2' := hide (y2.out.kept hb4)
          have y3 := hide (hv3.out.kept hb4)
          obtain ⟨A4, c4, rfl, hA4, _, _, hr4⟩ := hv4
          have h5 := hide (jb.out A4 c4 w4 hr4 hA4)
          replace hr4 := hide hr4
          clear hb4 r3 hv3 y2
          go_wp2_with fail
          refine h5.out.mono ?_
          rintro e w5 ⟨v5, rfl, hv5, hb5⟩
          have k5 := hide (bthen k4.out hb5)
          have r5 := hide (r4.out.kept hb5)
          have y2 := hide (y2'.out.kept hb5)
          have y3' := hide (y3.out.kept hb5)
          have q5 := hide (hr4.out.kept hb5)
          replace hv5 := hide hv5
          have h6 := hide (jm.out A1 c1 w5 r5.out hA1.out)
          clear hb5 r4 hr4 y2' y3 h5
          go_wp2_with fail
          refine h6.out.mono ?_
          rintro e w6 ⟨rfl, hb6⟩
          have h7 := hide (jn.out A4 c4 w6 (q5.out.kept hb6) hA4)
          have k6 := hide (bthen k5.out hb6)
          replace hb6 := hide hb6
          go_wp2_with fail
          refine h7.out.mono ?_
          rintro e w7 ⟨rfl, hb7⟩
          have k7 := hide (bthen k6.out hb7)
          have b57 := bthen hb6.out hb7
          have r7 := r5.out.kept b57
          have i7 : Its w7 (.slice A1 S.length c1) S := ⟨A1, c1, rfl, hA1.out, hA2h.out, hA3h.out, r7⟩
          have h8 := hide (fun W (hW : Below w7.heap.size w7 W) => ss.out W _ v2 (i7.kept hW) ((y2.out.kept b57).kept hW))
          have h9 := hide (fun W (hW : Below w7.heap.size w7 W) => ss.out W _ v3 (i7.kept hW) ((y3'.out.kept b57).kept hW))
          have h10 := hide (fun W (hW : Below w7.heap.size w7 W) => ss.out W _ v5 (i7.kept hW) ((hv5.out.kept b57).kept hW))
          have h11 := hide (fun W (hW : Below w7.heap.size w7 W) => js.out A1 c1 W (r7.kept hW))
          have h12 := hide (fun W (hW : Below w7.heap.size w7 W) => jr.out A4 c4 W ((q5.out.kept b57).kept hW))
          clear hb6 hb7 b57 r7 i7 r5 q5 y2 y3' hv5 h6 h7 k5 k6
          go_wp2_with fail
          refine (h8.out _ (Below.refl _ _)).mono ?_
          rintro e w8 ⟨rfl, hb8⟩
          replace hb8 := hide hb8
          go_wp2_with fail
          refine (h9.out _ hb8.out).mono ?_
          rintro e w9 ⟨rfl, hb9⟩
          have k9 := hide (bthen hb8.out hb9)
          clear hb9
          go_wp2_with fail
          refine (h10.out _ k9.out).mono ?_
          rintro e w10 ⟨rfl, hb10⟩
          have k10 := hide (bthen k9.out hb10)
          clear hb10
          have hw : (q = (!p) ∧ 0 ≤ x ∧ x < pw l) ∨ (q = p ∧ x < 0) ∨ (q = p ∧ 0 ≤ x ∧ pw l ≤ x) := by
            rw [his] at heq
            by_cases x0 : 0 ≤ x
            · by_cases x1 : x < pw l
              · rw [decide_eq_true ⟨x0, x1⟩] at heq
                refine .inl ⟨?_, x0, x1⟩
                cases p <;> cases q <;> simp at heq ⊢
              · rw [decide_eq_false (fun k => x1 k.2)] at heq
                refine .inr (.inr ⟨?_, x0, by omega⟩)
                cases p <;> cases q <;> simp at heq ⊢
            · rw [decide_eq_false (fun k => x0 k.1)] at heq
              refine .inr (.inl ⟨?_, by omega⟩)
              cases p <;> cases q <;> simp at heq ⊢
          clear heq his
          rcases hw with ⟨hq2, x0, x1⟩ | ⟨hq2, x0⟩ | ⟨hq2, x0, x1⟩
          all_goals
            cases p
            all_goals
              try simp only [Bool.not_true, Bool.not_false] at hq2
              subst hq2
              go_wp2_with fail
              refine (h11.out _ k10.out).mono ?_
              rintro e w11 ⟨rfl, hb11⟩
              have k11 := hide (bthen k10.out hb11)
              clear hb11
              go_wp2_with fail
              refine (h12.out _ k11.out).mono ?_
              rintro e w12 ⟨rfl, hb12⟩
              have k12 := hide (bthen k11.out hb12)
              clear hb12
              go_wp2_with fail
              refine (alive05 _).mono ?_
              rintro e w13 ⟨rfl, hb13⟩
              go_wp2_with fail
              go_ret
              first
                | exact ⟨rfl, bthen (bthen k7.out k12.out) hb13⟩
                | exact ⟨ret_congr (bool_congr (by rw [decide_eq_false (by omega)]; rfl)), bthen (bthen k7.out k12.out) hb13⟩
        · obtain ⟨j, rfl⟩ : ∃ j, i = j + 1 := ⟨i - 1, by omega⟩
          have hjl : j < z.length := by rw [hzh.out]; omega
          have hrz : Rd w A z.length 1 (ic z) := by rw [hzh.out]; exact hrn.out
          have bw := hb1.out.trans (hbel.mono hb1.out.size)
          obtain ⟨b, off, rfl, hbs, hc⟩ := it_at (hrz.kept bw) hjl
          have hdr : Hid ((z.drop j).reverse = (z.drop (j + 1)).reverse ++ [z[j]]) := by
            show _ = _
            rw [List.drop_eq_getElem_cons hjl, List.reverse_cons]
          generalize z[j] = y at *
          have how := hide how
          have hbel := hide hbel
          clear bw hrz
          go_wp2_with (at_builtin; refine wpList_app1 elInt rfl (.tmp 49) (.tmp 54) rfl w1.heap.size _ _ _ [.int .i64 y] 3 rfl how.out rfl rfl (one1 rfl) (by omega) hz1 ?_; intro v3 w3 how3 hb3 hgr3 hat3; have how3 := hide how3; have hb3 := hide hb3; clear hgr3 hat3)
          go_roundw
          case rel => exact ⟨j, by simp, by omega, by rw [hdr.out, iv_append, show n - j = n - (j + 1) + 1 by omega]; exact how3.out, hbel.out.trans hb3.out⟩
          case measure => simp [intOf]
  · have h := long_alive h60
    clear h60 r hb hz
    go_enter Try.func9, Try.ntmps9
    go_wp2_with fail
    refine (alive05 _).mono ?_
    rintro e w1 ⟨rfl, hb1⟩
    go_wp2_with fail
    go_ret
    exact ⟨rfl, hb1⟩
end Go.Proofs.Ytbibchdjojmpaaa

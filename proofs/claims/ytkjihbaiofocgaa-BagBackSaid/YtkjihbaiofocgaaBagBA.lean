/- Layer 10: the walk of the law BagBack. By the prover of this repo. -/
import Derived.Test.YtkjihbaiofocgaaBagPO
import Derived.Test.YtkjihbaiofocgaaBagBL
import Derived.Test.YtkjihbaiofocgaaBagMO
import Derived.Laws.Small
namespace Go.Proofs.Ytkjihbaiofocgaa
open Go.RowKit
open TwigM BagM

theorem Blk.three {W : World} {q : Nat} {t : TypeId} {a b c : Value} (h : Blk W q t #[a, b, c]) : W.cell? ⟨q, 0, none⟩ = some a ∧ W.cell? ⟨q, 1, none⟩ = some b ∧ W.cell? ⟨q, 2, none⟩ = some c ∧ q < W.heap.size :=
  ⟨by rw [h.cell]; rfl, by rw [h.cell]; rfl, by rw [h.cell]; rfl, h.lt⟩

set_option maxRecDepth 100000 in
set_option maxHeartbeats 8000000 in
theorem bagBack_walk (L : Int) (A : Option Addr) (c : Nat) (r1 : List Rg) (B : Option Addr) (d : Nat) (r2 : List Rg) (w : World) (_hL : -9223372036854775808 ≤ L ∧ L ≤ 9223372036854775807)
    (hr : Rd w A r1.length 2 (ndc r1)) (hA : A = none → r1.length = 0) (hc : r1.length ≤ c) (hm : c ≤ maxLen) (hwf : RgWf r1) (hr2 : Rd w B r2.length 2 (ndc r2)) (hB : B = none → r2.length = 0) (hd : r2.length ≤ d) (hm2 : d ≤ maxLen) (hwf2 : RgWf r2)
    (x0 y0 z : Int) (hx0 : -9223372036854775808 ≤ x0 ∧ x0 ≤ 9223372036854775807) (hy0 : -9223372036854775808 ≤ y0 ∧ y0 ≤ 9223372036854775807) (hz : -9223372036854775808 ≤ z ∧ z ≤ 9223372036854775807) :
    Calls Try.prog 5 #[.int .i64 L, .agg #[.slice A r1.length c, .slice B r2.length d], .agg #[.int .i64 x0, .int .i64 y0, .int .i64 z]] w fun e w' => e = .returned (.bool true) ∧ Below w.heap.size w w' := by
  have hn1 : Nds w (.slice A r1.length c) r1 := ⟨A, c, rfl, hA, hc, hm, hr⟩
  have hn2 : Nds w (.slice B r2.length d) r2 := ⟨B, d, rfl, hB, hd, hm2, hr2⟩
  clear hr hA hc hm hr2 hB hd hm2
  by_cases hg : 60 < r1.length ∨ 60 < r2.length ∨ L < 1 ∨ 48 < L
  · clear hn1 hn2 hwf hwf2
    generalize r1.length = n1 at *
    generalize r2.length = n2 at *
    have hcase : ((60 : Int) < (n1 : Int)) ∨ (¬ (60 : Int) < (n1 : Int) ∧ (60 : Int) < (n2 : Int)) ∨ (¬ (60 : Int) < (n1 : Int) ∧ ¬ (60 : Int) < (n2 : Int) ∧ L < 1) ∨ (¬ (60 : Int) < (n1 : Int) ∧ ¬ (60 : Int) < (n2 : Int) ∧ ¬ L < 1 ∧ 48 < L) := by omega
    clear hg
    rcases hcase with h1 | ⟨h1, h2⟩ | ⟨h1, h2, h3⟩ | ⟨h1, h2, h3, h4⟩
    all_goals
      go_enter Try.func5, Try.ntmps5
      go_wp2_with fail
      refine (alive10 _).mono ?_
      rintro e w1 ⟨rfl, hb1⟩
      go_wp2_with fail
      go_ret
      exact ⟨rfl, bthen (balloc (balloc0 _ _) _) hb1⟩
  · have h1 : ¬ (60 : Int) < (r1.length : Int) := by omega
    have h2 : ¬ (60 : Int) < (r2.length : Int) := by omega
    have h3 : ¬ L < 1 := by omega
    have h4 : ¬ 48 < L := by omega
    have hok1 := of_ok L r1
    have hok2 := of_ok L r2
    have hlen1 := of_len L r1
    have hlen2 := of_len L r2
    have hM1 := hide (made2_c L r1 (.slice A r1.length c) ((w.alloc (.cells #[.slice A r1.length c, .slice B r2.length d] 51)).alloc (.cells #[.int .i64 x0, .int .i64 y0, .int .i64 z] 37)) (hn1.kept (balloc (balloc0 _ _) _)) (by omega) (by omega) hwf)
    have hM2 := hide (fun W (hW : Below w.heap.size w W) => made2_c L r2 (.slice B r2.length d) W (hn2.kept hW) (by omega) (by omega) hwf2)
    have hrl1 : r1.length ≤ 60 := by omega
    have hrl2 : r2.length ≤ 60 := by omega
    have hbx := (Blk.made w 51 #[.slice A r1.length c, .slice B r2.length d]).alloc (.cells #[.int .i64 x0, .int .i64 y0, .int .i64 z] 37)
    have hby := Blk.made_at (w.alloc (.cells #[.slice A r1.length c, .slice B r2.length d] 51)) 37 #[.int .i64 x0, .int .i64 y0, .int .i64 z] (g := w.heap.size + 1) (by simp)
    replace hby := hide hby
    clear hg hn1 hn2 hwf hwf2
    generalize ofF L r1 = l1 at *
    generalize ofF L r2 = l2 at *
    generalize r1.length = n1 at *
    generalize r2.length = n2 at *
    obtain ⟨ho1, hi1⟩ := hok1
    obtain ⟨ho2, hi2⟩ := hok2
    have hi1h := hide hi1
    have hi2h := hide hi2
    have ho1h := hide ho1
    have ho2h := hide ho2
    have hl1 : l1.length ≤ 500 := by omega
    have hl2 : l2.length ≤ 500 := by omega
    clear ho1 ho2 hi1 hi2
    go_enter Try.func5, Try.ntmps5
    go_wp2_with fail
    refine hM1.out.mono ?_
    rintro e w1 ⟨g1, v1, u1, rfl, hB1, hu1, hb1, hf1, hfu1⟩
    have hbw1 := bthen (balloc (balloc0 _ _) _) hb1
    have hby1 := hide (hby.out.kept hb1)
    have hbx1 := hbx.kept hb1
    have i0 : w1.cell? ⟨w.heap.size, 0, none⟩ = some (.slice A n1 c) := by rw [hbx1.cell]; rfl
    have i1 : w1.cell? ⟨w.heap.size, 1, none⟩ = some (.slice B n2 d) := by rw [hbx1.cell]; rfl
    have i2 := hbx1.lt
    have hu1h := hide hu1
    obtain ⟨A1, c1, rfl, _, _, _, _⟩ := hu1
    have hx1 := Blk.made w1 29 #[.int .i64 L, .slice A1 l1.length c1]
    have hM2' := hide (hM2.out _ (balloc hbw1 (.cells #[.int .i64 L, .slice A1 l1.length c1] 29)))
    have hB1h := hide hB1
    clear hB1 hbx hM2
    go_wp2_with fail
    refine hM2'.out.mono ?_
    rintro e w2 ⟨g2, v2, u2, rfl, hB2, hu2, hb2, hf2, hfu2⟩
    have hu2h := hide hu2
    obtain ⟨A2, c2, rfl, _, _, _, _⟩ := hu2
    have hbw2 := bthen (balloc hbw1 (.cells #[.int .i64 L, .slice A1 l1.length c1] 29)) hb2
    have hb12 : Below w1.heap.size w1 w2 := (balloc0 _ _).trans (hb2.mono (by simp))
    have hz1 := hb2.size
    simp only [World.size_alloc] at hz1
    have hzw := hbw1.size
    have hT : Hid (Two w g1 g2 w1.heap.size w2.heap.size L L l1 l2 v1 v2 (.slice A1 l1.length c1) (.slice A2 l2.length c2) (w2.alloc (.cells #[.int .i64 L, .slice A2 l2.length c2] 29))) := by
      simp only [World.size_alloc] at hf1 hfu1 hf2 hfu2
      refine ⟨balloc hbw2 _, (hB1h.out.kept hb12).kept (balloc0 _ _), hB2.kept (balloc0 _ _), (hu1h.out.kept hb12).kept (balloc0 _ _), hu2h.out.kept (balloc0 _ _), (hx1.kept hb2).alloc _, Blk.made _ _ _, fun j hj => ?_, fun j hj => ?_, fun j hj e => ?_, fun j hj => ?_, fun j hj => ?_⟩
      · have q1 := hf1 j hj
        have q2 := hB1h.out.lt j hj
        omega
      · have q1 := hf2 j hj
        have q2 := hB2.lt j hj
        omega
      · have q1 := hf2 j e
        have q2 := hB1h.out.lt j hj
        omega
      · have q1 := hfu1 j hj
        refine ⟨by simp; omega, q1.2.2, fun e => by have := hf2 j e; omega⟩
      · have q1 := hfu2 j hj
        refine ⟨by simp; omega, fun e => by have := hB1h.out.lt j e; omega, q1.2.2⟩
    have hby3 := hide ((hby1.out.kept hb12).alloc (.cells #[.int .i64 L, .slice A2 l2.length c2] 29))
    clear hB1h hB2 hu1h hu2h hf1 hf2 hfu1 hfu2 hx1 hbx1 hb12 hb1 hb2 i0 i1 i2
    go_wp2_with fail
    obtain ⟨W3, hW3⟩ : ∃ W3, Hid (W3 = w2.alloc (.cells #[.int .i64 L, .slice A2 l2.length c2] 29)) := ⟨_, rfl⟩
    rw [← hW3.out] at hT hby3 ⊢
    obtain ⟨q1, hq1⟩ : ∃ q1, w1.heap.size = q1 := ⟨_, rfl⟩
    obtain ⟨q2, hq2⟩ : ∃ q2, w2.heap.size = q2 := ⟨_, rfl⟩
    rw [hq1, hq2] at hT ⊢
    clear hq1 hq2 hz1 hzw hbw1 hbw2
    have hoh1 := hide hT.out.a
    obtain ⟨i0, i1, i2, i3⟩ := hby3.out.three
    obtain ⟨lo, hlo⟩ : ∃ lo, (if y0 < x0 then y0 else x0) = lo := ⟨_, rfl⟩
    obtain ⟨hi, hhi⟩ : ∃ hi, (if y0 > x0 then y0 else x0) = hi := ⟨_, rfl⟩
    have hlh : lo ≤ hi := by rw [← hlo, ← hhi]; split <;> split <;> omega
    have hlo1 : -9223372036854775808 ≤ lo ∧ lo ≤ 9223372036854775807 := by rw [← hlo]; split <;> omega
    have hhi1 : -9223372036854775808 ≤ hi ∧ hi ≤ 9223372036854775807 := by rw [← hhi]; split <;> omega
    have hloh := hide hlo
    have hhih := hide hhi
    clear hlo hhi
    go_quiet (fail)
    rw [hloh.out, hhih.out]
    have hbs := hide (below_drewN (Below.refl W3.heap.size W3) nq)
    have hRk := hide (fun xx W (hW : Below W3.heap.size W3 W) => rank_c xx g1 L l1 v1 W (hT.out.a.kept hW) ho1h.out hi1h.out (by omega))
    have hRb := hide (fun xx W (hW : Below W3.heap.size W3 W) => rank_c xx g2 L l2 v2 W (hT.out.b.kept hW) ho2h.out hi2h.out (by omega))
    have hbt := bet_split lo hi hlh l1 fun p hp => (hi1h.out p hp).1
    have hBt := fun W (hW : Below W3.heap.size W3 W) => between_c lo hi g1 L l1 v1 W (hT.out.a.kept hW) ho1h.out (by omega)
    rw [hbt] at hBt
    replace hBt := hide hBt
    have hmn := rank_mono lo hi hlh l1 ho1h.out.pos
    have hk1 := kth_rank l1 z ho1h.out hi1h.out
    have hk2 := kth_bound l1 z hi1h.out ho1h.out (by omega)
    have hbd : ∀ xx (l : List Rg), Ok l → 0 ≤ rank xx l ∧ rank xx l ≤ 72057594037927935 := fun xx l ho => ⟨bet_nonneg 0 xx l ho.pos, by have := bet_le 0 xx l ho.pos; have := ho.most; unfold rank; omega⟩
    have b1 := hbd lo l1 ho1h.out
    have b2 := hbd hi l1 ho1h.out
    have b3 := hbd (lo - 1) l1 ho1h.out
    have b4 := hbd lo l2 ho2h.out
    have hRlo := hide (fun W hW => hRk.out lo W hW)
    have hRhi := hide (fun W hW => hRk.out hi W hW)
    have hRl1 := hide (fun W hW => hRk.out (lo - 1) W hW)
    have hRbl := hide (fun W hW => hRb.out lo W hW)
    have hK := hide (fun W (hW : Below W3.heap.size W3 W) => kth_c z g1 L l1 v1 W (hT.out.a.kept hW) ho1h.out (by omega) hz)
    have hPo := fun W (hW : Below W3.heap.size W3 W) => pour_c g1 g2 L L l1 l2 v1 v2 W (hT.out.a.kept hW) (hT.out.b.kept hW) ho1h.out ho2h.out hl1 hl2
    have hpk := hide (pour_ok (L := L) (M := L) ho1h.out ho2h.out)
    have hpi := hide (pour_in (M := L) hi1h.out hi2h.out)
    have hpl := pour_len (L := L) (M := L) (l := l1) (r := l2)
    have hpp := pour_rank (L := L) lo l1 l2
    generalize pourF L L l1 l2 = G at *
    obtain ⟨lp, ep⟩ := G
    simp only at hPo hpk hpi hpl hpp
    have hRp := fun W v' (h : BagAt W g1 L lp v') => rank_c lo g1 L lp v' W h hpk.out hpi.out (by omega)
    generalize rank lo lp = Rp at *
    have hRp := hide hRp
    replace hPo := hide hPo
    clear hbd hbt hpl
    generalize hG1 : rank lo l1 = Rlo at *
    generalize hG2 : rank hi l1 = Rhi at *
    generalize hG3 : rank (lo - 1) l1 = Rl1 at *
    generalize hG4 : rank lo l2 = Rb at *
    generalize kthF l1 z = K at *
    obtain ⟨k, ke⟩ := K
    simp only at hK hk1 hk2
    replace hK := hide hK.out
    replace hG1 := hide hG1
    replace hG2 := hide hG2
    replace hG3 := hide hG3
    replace hG4 := hide hG4
    have hby' := hide (fun W (hW : Below W3.heap.size W3 W) => (hby3.out.kept hW).three)
    have hpz : (2 : Int) ^ z.toNat = pw z := rfl
    have hpb : (2 : Int) ^ (L - z).toNat = pw (L - z) := rfl
    replace hpz := hide hpz
    replace hpb := hide hpb
    clear i0 i1 i2 i3
    rcases (by omega : -4611686018427387904 < lo ∨ lo ≤ -4611686018427387904) with hlb | hlb
    case' inl =>
      go_wp2_with fail
      refine (hRlo.out _ hbs.out).mono ?_
      rintro e w4 ⟨rfl, hb4⟩
      have hc4 := bthen hbs.out hb4
      go_wp2_with fail
      refine (hRhi.out _ hc4).mono ?_
      rintro e w5 ⟨rfl, hb5⟩
      have hc5 := bthen hc4 hb5
      go_wp2_with fail
      refine (hBt.out _ hc5).mono ?_
      rintro e w6 ⟨rfl, hb6⟩
      have hc6 := bthen hc5 hb6
      go_wp2_with fail
      refine (hRhi.out _ hc6).mono ?_
      rintro e w7 ⟨rfl, hb7⟩
      have hc7 := bthen hc6 hb7
      go_wp2_with fail
      refine (hRl1.out _ hc7).mono ?_
      rintro e w8 ⟨rfl, hb8⟩
      have hc8 := bthen hc7 hb8
    case' inr =>
      go_wp2_with fail
      refine (hRlo.out _ hbs.out).mono ?_
      rintro e w4 ⟨rfl, hb4⟩
      have hc4 := bthen hbs.out hb4
      go_wp2_with fail
      refine (hRhi.out _ hc4).mono ?_
      rintro e w8 ⟨rfl, hb8⟩
      have hc8 := bthen hc4 hb8
    all_goals
      obtain ⟨-, -, s2, s3⟩ := hby'.out _ hc8
      go_wp2_with fail
      refine (hK.out _ hc8).mono ?_
      rintro e w9 ⟨rfl, hw9⟩
      subst hw9
      by_cases hke : ke = 0
      case' pos =>
        subst hke
        obtain ⟨hk3, hk4⟩ := hk1 rfl
        have c1' := fun (e : Later w8.heap.size w8) => hRk.out k e.val (bthen hc8 e.property)
        have c2' := fun (e : Later w8.heap.size w8) => hRk.out (k - 1) e.val (bthen hc8 e.property)
        generalize rank k l1 = Rk at *
        generalize rank (k - 1) l1 = Rk1 at *
        replace c1' := hide c1'
        replace c2' := hide c2'
        go_wp2_with fail
        refine wp_region_later (by kernel_rfl) (by kernel_rfl) ?_
        replace hk3 : ¬ Rk < z := by omega
        replace hk4 : ¬ z ≤ Rk1 := by omega
        repeat (first
          | go_big_quiet_step (first
            | (go_at_call 17; (with_reducible exact calls_later (c1'.out _)))
            | (go_at_call 17; (with_reducible exact calls_later (c2'.out _)))
            | exact rfl)
          | rw [decide_eq_false hk3]
          | rw [decide_eq_false hk4])
        refine wpQuiet_nil ?_
        rintro _ ⟨e4, rfl⟩
        have hc10 := bthen hc8 e4.property
        clear c1' c2' hk3 hk4
        generalize e4.val = w10 at hc10 ⊢
      case' neg =>
        go_wp2_with fail
        refine wp_region_later (by kernel_rfl) (by kernel_rfl) ?_
        repeat (first
          | go_big_quiet_step (first | exact congrArg Value.bool (decide_eq_false hke) | exact rfl)
          | rw [decide_eq_false hke])
        refine wpQuiet_nil ?_
        rintro _ ⟨e4, rfl⟩
        have hc10 := bthen hc8 e4.property
        generalize e4.val = w10 at hc10 ⊢
    all_goals
      clear s2 s3 hk1 hk2
      go_wp2_with fail
      refine (hRlo.out _ hc10).mono ?_
      rintro e w11 ⟨rfl, hb11⟩
      have hc11 := bthen hc10 hb11
      go_wp2_with fail
      refine (hRbl.out _ hc11).mono ?_
      rintro e w12 ⟨rfl, hb12⟩
      have hc12 := bthen hc11 hb12
      clear hc10 hc11 hb11 hb12
      obtain ⟨-, -, s2, s3⟩ := hby'.out _ hc12
      rcases (by omega : (z < 0 ∨ L ≤ z) ∨ (0 ≤ z ∧ z < L)) with hzz | ⟨hz1, hz2⟩
      case' inl =>
        have hc16 := hc12
        rcases hzz with hz1 | hz1
        all_goals
          go_wp2_with fail
      case' inr =>
        have hIm := hide (image_yes z g1 L l1 v1 w12 (hT.out.a.kept hc12) ho1h.out hi1h.out hl1 ⟨by omega, by omega⟩ ⟨hz1, hz2⟩)
        go_wp2_with fail
        refine hIm.out.mono ?_
        rintro e w13 ⟨g3, v3, rfl, hB3, hb13, hf3⟩
        have hc13 := bthen hc12 hb13
        have ht3 := bagTotal_c g3 (L - z) _ _ v3 w13 hB3
        rw [tot_image] at ht3
        have ht1 := bagTotal_c g1 L _ l1 v1 w13 (hT.out.a.kept hc13)
        generalize tot l1 = Tt at *
        replace ht3 := hide ht3
        replace ht1 := hide ht1
        have hIk := image_ok (k := z) (L := L) ho1h.out
        have hIr := rank_c lo g3 (L - z) (imageF z l1) v3 w13 hB3 hIk.1 (image_in hz1 (by omega) l1 hi1h.out) (by omega)
        replace hIr := hide hIr
        clear hIk hB3 hf3 s2 s3 hIm
        go_wp2_with fail
        refine ht3.out.mono ?_
        rintro e w14 ⟨rfl, hw14⟩
        subst hw14
        go_wp2_with fail
        refine ht1.out.mono ?_
        rintro e w15 ⟨rfl, hw15⟩
        subst hw15
        have hpz' := hpz.out
        have hpb' := hpb.out
        have hq1 := pw_pos (L - z)
        have hq2 := pw_le48 (show L - z ≤ 48 by omega)
        rcases (by omega : lo < 0 ∨ (0 ≤ lo ∧ pw (L - z) ≤ lo) ∨ (0 ≤ lo ∧ lo < pw (L - z))) with hv1 | ⟨hv1, hv2⟩ | ⟨hv1, hv2⟩
        case' inl =>
          have hc16 := hc13
          go_wp2_with fail
        case' inr.inl =>
          first
            | (exfalso; omega)
            | (have hc16 := hc13
               go_wp2_with fail)
        case' inr.inr =>
          first
            | (exfalso; omega)
            | (obtain ⟨hp1, hp2⟩ := prod_in hz1 (by omega) (by omega) hv1 hv2
               have hIr' := hIr.out
               rw [rank_image z lo hz1 hv1 l1 hi1h.out] at hIr'
               have hRv := fun W (hW : Below W3.heap.size W3 W) => hRk.out ((lo + 1) * pw z - 1) W hW
               generalize rank ((lo + 1) * pw z - 1) l1 = Rv at *
               replace hIr' := hide hIr'
               replace hRv := hide hRv
               go_wp2_with fail
               refine hIr'.out.mono ?_
               rintro e w14 ⟨rfl, hb14⟩
               have hc14 := bthen hc13 hb14
               go_wp2_with fail
               refine (hRv.out _ hc14).mono ?_
               rintro e w15 ⟨rfl, hb15⟩
               have hc16 := bthen hc14 hb15
               go_wp2_with fail)
    all_goals
      refine (hPo.out _ hc16).mono ?_
      rintro e w17 ⟨rfl, hg17⟩
      obtain ⟨⟨v1', k1⟩, k2, -⟩ := two_a (hT.out.kept hc16) hg17
      by_cases hep : ep = 0
      · subst hep
        have hpp2 := hpp rfl
        have hRp2 := hide (hRp.out _ _ k1)
        clear hg17 k1
        go_wp2_with fail
        refine hRp2.out.mono ?_
        rintro e w18 ⟨rfl, hb18⟩
        go_wp2_with fail
        refine (alive10 _).mono ?_
        rintro e w19 ⟨rfl, hb19⟩
        go_wp2_with fail
        go_ret
        exact ⟨rfl, bthen (bthen k2 hb18) hb19⟩
      · clear hg17 k1
        go_wp2_with fail
        refine (alive10 _).mono ?_
        rintro e w18 ⟨rfl, hb18⟩
        go_wp2_with fail
        go_ret
        exact ⟨rfl, bthen k2 hb18⟩
end Go.Proofs.Ytkjihbaiofocgaa

/- The law VaryBack, walked. By the prover of this repo. -/
import Derived.Test.YtclndbaafibaiaaVaryC
namespace Go.Proofs.Ytclndbaafibaiaa
open Go.RowKit
open VaryM

theorem put_one (m : Nat) : putF (fun i => ([(m : Int)]).getD i 0) 1 = (encStr m, 0) := by
  rw [putF_all (by intro i hi; obtain rfl : i = 0 := by omega
                   show 0 ≤ (m : Int); omega)]
  rfl
theorem getD_max {L : List Int} (h : ∀ x ∈ L, x ≤ 9223372036854775807) : ∀ i, i < L.length → L.getD i 0 ≤ 9223372036854775807 := fun i hi => by
  simp [hi]; exact h _ (List.getElem_mem hi)

set_option maxRecDepth 100000 in
set_option maxHeartbeats 1600000 in
theorem varyBack_walk (a : Option Addr) (n c : Nat) (z : List Int) (s : ByteArray) (w : World) (hzn : z.length = n) (hnc : n ≤ c) (hc : c ≤ maxLen) (r : Rd w a n 1 (fun i => .int .i64 (z.getD i 0))) (hb : ∀ x ∈ z, (Lit.int .i64 x).wf = true)
    (hs : s.size ≤ maxLen) :
    Calls Try.prog 10 #[.slice a n c, .string s] w fun e w' => e = .returned (.bool true) ∧ Below w.heap.size w w' := by
  subst hzn
  have hf := hide (fun i (_ : i < z.length) => (getD_le hb i).2)
  unfold maxLen at hc hs
  by_cases hg : 200 < z.length
  · go_enter Try.func10, Try.ntmps10
    go_wp2_with fail
    refine (alive22 _).mono ?_
    rintro e w1 ⟨rfl, hb1⟩
    go_wp2_with fail
    go_ret
    exact ⟨rfl, hb1⟩
  by_cases hg2 : 1000 < s.size
  · go_enter Try.func10, Try.ntmps10
    go_wp2_with fail
    refine (alive22 _).mono ?_
    rintro e w1 ⟨rfl, hb1⟩
    go_wp2_with fail
    go_ret
    exact ⟨rfl, hb1⟩
  have hzx : ∀ x ∈ z, x ≤ 9223372036854775807 := fun x hx => (i64_bounds (hb x hx)).2
  have C1 := put_case z hzx (by omega)
  have C2 := rises_case z s hzx (by omega) (by omega)
  have C3 := fun gn gs h => get_case s gn gs h
  have G3 := get_facts s.data.toList
  rw [list_size] at G3
  have C4 := fun L at_ h => falls_case s L at_ h
  have hl4 := fall_len s.data.toList 1000
  rw [list_size] at hl4
  have P1 := fun W (hr : Rd W a z.length 1 (fun i => .int .i64 (z.getD i 0))) => vary_put a z.length c (fun i => z.getD i 0) W hr (by omega) hf.out
  have P2 := fun W (hr : Rd W a z.length 1 (fun i => .int .i64 (z.getD i 0))) => vary_rises a z.length c (fun i => z.getD i 0) W hr (by omega) hf.out
  have P3 := fun W => vary_get s W (by omega)
  have P4 := fun W => vary_falls s 1000 W (by omega) (by omega) (by omega)
  unfold getV at P3
  generalize putF (fun i => z.getD i 0) z.length = p1 at C1 P1
  generalize risF (fun i => z.getD i 0) z.length = p2 at C2 P2
  generalize get s.data.toList = p3 at C3 P3 G3
  generalize fall s.data.toList 1000 = p4 at C4 P4 hl4
  replace C1 := hide C1
  replace C2 := hide C2
  replace C3 := hide C3
  replace G3 := hide G3
  replace C4 := hide C4
  replace hl4 := hide hl4
  replace P1 := hide P1
  replace P2 := hide P2
  replace P3 := hide P3
  replace P4 := hide P4
  have hr := hide r
  clear r hb hzx hf
  go_enter Try.func10, Try.ntmps10
  go_wp2_with fail
  refine (P1.out w hr.out).mono ?_
  rintro e w1 ⟨rfl, hb1⟩
  go_upto_if 39 with (fail)
  go_cut [] from 5 (fun wc => Below w.heap.size w wc)
  case first =>
    rcases C1.out with rfl | ⟨t, rfl, ht, hall⟩
    · go_wp2_with fail
      go_meet
      case rel => exact hb1
    · have hA := vary_all t w1 ht
      rw [hall] at hA
      replace hA := hide hA
      go_wp2_with fail
      refine hA.out.mono ?_
      rintro e w2 ⟨v, rfl, how, hb2⟩
      obtain ⟨A, cA, rfl, _, _, hR⟩ := own_iv how
      have hk := hr.out.kept (bthen hb1 hb2)
      go_wp2_with fail
      refine (same_yes A a z.length cA c (fun i => z.getD i 0) _ hR hk (by omega)).mono ?_
      rintro e w3 ⟨rfl, hb3⟩
      go_wp2_with fail
      go_meet
      case rel => exact bthen (bthen hb1 hb2) hb3
  case rest =>
    clear hb1
    have hw1 := hcut
    clear hcut
    go_wp2_with fail
    refine (P2.out wc (hr.out.kept hw1)).mono ?_
    rintro e w2 ⟨rfl, hb2⟩
    have hw2 := bthen hw1 hb2
    clear hw1 hb2
    go_upto_if 59 with (fail)
    go_cut [] from 5 (fun wc => Below w.heap.size w wc)
    case first =>
      rcases C2.out with rfl | ⟨t, rfl, ht, hall⟩
      · go_wp2_with fail
        go_meet
        case rel => exact hw2
      · have hA := vary_falls (t ++ s) (z.length : Int) w2 (by rw [ByteArray.size_append]; omega) (by omega) (by omega)
        rw [hall] at hA
        replace hA := hide hA
        have hsz := ByteArray.size_append (a := t) (b := s)
        clear hall
        go_wp2_with fail
        refine hA.out.mono ?_
        rintro e w3 ⟨v, rfl, how, hb3⟩
        obtain ⟨A, cA, rfl, _, _, hR⟩ := own_iv how
        have hw3 := bthen hw2 hb3
        have hk := hr.out.kept hw3
        go_wp2_with fail
        refine (same_yes A a z.length cA c (fun i => z.getD i 0) _ hR hk (by omega)).mono ?_
        rintro e w4 ⟨rfl, hb4⟩
        go_wp2_with fail
        go_meet
        case rel => exact bthen hw3 hb4
    case rest =>
      clear hw2
      have hw3 := hcut
      clear hcut
      obtain ⟨gn, gs, ge⟩ := p3
      go_wp2_with fail
      refine (P3.out _).mono ?_
      rintro e w3 ⟨rfl, rfl⟩
      go_upto_if 91 with (fail)
      go_cut [] from 5 (fun wc => Below w.heap.size w wc)
      case first =>
        by_cases hge : ge = 0
        · subst hge
          obtain ⟨h1, hx⟩ := C3.out gn gs rfl
          obtain ⟨h2, h3, h4⟩ := G3.out.2.1 rfl
          have h5 := G3.out.1
          have hput := fun W : World => vary_put (some ⟨W.heap.size, 0, none⟩) 1 1 (fun i => ([(gn : Int)]).getD i 0) (W.alloc (.cells #[.int .i64 gn] 3))
            (Rd.of_blk (Blk.made _ _ _) 0 (by simp) (by intro i hi; obtain rfl : i = 0 := by omega
                                                        rfl)) (by omega) (by intro i hi; obtain rfl : i = 0 := by omega
                                                                             show (gn : Int) ≤ _; omega)
          rw [put_one] at hput
          have hsz : (encStr (gn : Int)).size = gs := by rw [h1]; rfl
          have hsize := fun W : World => vary_size (gn : Int) W (by omega)
          rw [if_neg (by omega : ¬ (gn : Int) < 0), Int.toNat_natCast, ← h1] at hsize
          generalize encStr (gn : Int) = t at hput hsz hx
          replace hput := hide hput
          replace hsize := hide hsize
          clear h1
          go_wp2_with fail
          refine (hput.out _).mono ?_
          rintro e w4 ⟨rfl, hb4⟩
          have hw4 := hw3.trans ((balloc0 _ _).trans (hb4.mono (by simp)) |>.mono hw3.size)
          go_wp2_with fail
          refine (hsize.out _).mono ?_
          rintro e w5 ⟨rfl, rfl⟩
          go_wp2_with fail
          go_meet
          case rel => exact hw4
        · go_wp2_with fail
          go_meet
          case rel => exact hw3
      case rest =>
        clear hw3
        have hw4 := hcut
        clear hcut
        obtain ⟨L, at_, e4⟩ := p4
        go_wp2_with fail
        refine (P4.out _).mono ?_
        rintro e w4 ⟨v, rfl, how, hb4⟩
        obtain ⟨A, cA, rfl, _, _, hR⟩ := own_iv how
        have hw5 := bthen hw4 hb4
        go_upto_if 126 with (fail)
        go_cut [] from 5 (fun wc => Below w.heap.size w wc)
        case first =>
          by_cases hge : e4 = 0
          · subst hge
            obtain ⟨t, hrf, rfl, hx, hts, hle⟩ := C4.out L _ rfl
            have hl := hl4.out
            have hris := vary_rises A L.length cA (fun i => L.getD i 0) w4 hR (by omega) (getD_max hle)
            rw [hrf] at hris
            replace hris := hide hris
            clear hrf hle how hR
            go_wp2_with fail
            refine hris.out.mono ?_
            rintro e w5 ⟨rfl, hb5⟩
            go_wp2_with fail
            go_meet
            case rel => exact bthen hw5 hb5
          · clear how hR
            go_wp2_with fail
            go_meet
            case rel => exact hw5
        case rest =>
          clear hw5 how hR hb4 hw4
          have hw6 := hcut
          clear hcut
          go_wp2_with fail
          refine (alive22 _).mono ?_
          rintro e w6 ⟨rfl, hb6⟩
          go_wp2_with fail
          go_ret
          exact ⟨rfl, bthen hw6 hb6⟩
end Go.Proofs.Ytclndbaafibaiaa

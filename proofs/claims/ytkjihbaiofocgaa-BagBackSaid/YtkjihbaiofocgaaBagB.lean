/- Layer 10: ranks, the value of a rank, the ends of a bag; its readings as a list of their own; whether two bags are the same. By the prover of this repo. -/
import Derived.Test.YtkjihbaiofocgaaBagA
namespace Go.Proofs.Ytkjihbaiofocgaa
open Go.RowKit
open TwigM BagM

theorem rank_c (x : Int) (g : Nat) (L : Int) (l : List Rg) (v : Value) (w : World) (h : BagAt w g L l v) (ho : Ok l) (hi0 : In L l) (hl : l.length ≤ 1000000) :
    Calls Try.prog 17 #[.pointer (some ⟨g, 0, none⟩), .int .i64 x] w fun e w' => e = .returned (.int .i64 (rank x l)) ∧ Below w.heap.size w w' := by
  have h1 := above_c x g L _ l v w h ho hl
  have h2 := fun W (hW : Below w.heap.size w W) => weigh_c 0 (hi x l) g L _ l v W (h.kept hW) ho hl (hi_le x l) (Nat.zero_le _)
  rw [rank_seg x l ho.rise hi0] at h2
  rw [show ((0 : Nat) : Int) = 0 from rfl] at h2
  generalize rank x l = r at *
  generalize hi x l = k at *
  replace h1 := hide h1
  replace h2 := hide h2
  clear h ho
  go_enter Try.func17, Try.ntmps17
  go_wp2_with fail
  refine h1.out.mono ?_
  rintro e w1 ⟨rfl, hb1⟩
  go_wp2_with fail
  refine (h2.out _ hb1).mono ?_
  rintro e w2 ⟨rfl, rfl⟩
  go_wp2_with fail
  go_ret
  exact ⟨rfl, hb1⟩
theorem between_c (x y : Int) (g : Nat) (L : Int) (l : List Rg) (v : Value) (w : World) (h : BagAt w g L l v) (ho : Ok l) (hl : l.length ≤ 1000000) :
    Calls Try.prog 19 #[.pointer (some ⟨g, 0, none⟩), .int .i64 x, .int .i64 y] w fun e w' => e = .returned (.int .i64 (bet x y l)) ∧ Below w.heap.size w w' := by
  have h0 := place_c x g L _ l v w h ho hl
  have h1 := fun W (hW : Below w.heap.size w W) => above_c y g L _ l v W (h.kept hW) ho hl
  have h2 := fun W (hW : Below w.heap.size w W) => weigh_c (lo x l) (hi y l) g L _ l v W (h.kept hW) ho hl (hi_le y l) (lo_le x l)
  rw [← bet_seg x y l ho.rise] at h2
  generalize bet x y l = r at *
  generalize hi y l = k at *
  generalize lo x l = m at *
  replace h0 := hide h0
  replace h1 := hide h1
  replace h2 := hide h2
  clear h ho
  go_enter Try.func19, Try.ntmps19
  go_wp2_with fail
  refine h0.out.mono ?_
  rintro e w1 ⟨rfl, hb1⟩
  go_wp2_with fail
  refine (h1.out _ hb1).mono ?_
  rintro e w2 ⟨rfl, hb2⟩
  go_wp2_with fail
  refine (h2.out _ (bthen hb1 hb2)).mono ?_
  rintro e w3 ⟨rfl, rfl⟩
  go_wp2_with fail
  go_ret
  exact ⟨rfl, bthen hb1 hb2⟩

theorem kth_at {r : Int} {p : Rg} {l : List Rg} (h : r ≤ p.2) : kthGo r (p :: l) = p.1 := if_pos h
theorem kth_on {r : Int} {p : Rg} {l : List Rg} (h : ¬ r ≤ p.2) : kthGo r (p :: l) = kthGo (r - p.2) l := if_neg h
set_option maxRecDepth 100000 in
set_option maxHeartbeats 1000000 in
theorem kth_c (r : Int) (g : Nat) (L : Int) (l : List Rg) (v : Value) (w : World) (h : BagAt w g L l v) (ho : Ok l) (hl : l.length ≤ 1000000) (hr : -9223372036854775808 ≤ r ∧ r ≤ 9223372036854775807) :
    Calls Try.prog 15 #[.pointer (some ⟨g, 0, none⟩), .int .i64 r] w fun e w' => e = .returned (.tuple #[.int .i64 (kthF l r).1, .int .i64 (kthF l r).2]) ∧ w = w' := by
  obtain ⟨c0, c1, c2, f1, f2, hg⟩ := bag_cells h
  have hm := ho.most
  by_cases h0 : l = []
  · subst h0
    have hF : Hid (kthF [] r = (0, 7)) := if_pos rfl
    obtain ⟨A, c, rfl⟩ := h.form
    rw [hF.out]
    simp only [List.length_nil] at c2
    clear h ho
    go_enter Try.func15, Try.ntmps15
    go_wp2_with fail
    go_ret2
    exact ⟨rfl, rfl⟩
  · have hn : 0 < l.length := List.length_pos_iff.2 h0
    have hn2 : ¬ (l.length : Int) = 0 := by omega
    have hn3 : ((l.length : Int) == 0) = false := by simpa using hn2
    by_cases h1 : r < 1 ∨ tot l < r
    · have hF : Hid (kthF l r = (0, 2)) := by show _ = _; unfold kthF; rw [if_neg h0, if_pos h1]
      obtain ⟨A, c, rfl⟩ := h.form
      rw [hF.out]
      clear h ho h0
      generalize tot l = t at *
      generalize l.length = n at *
      by_cases h2 : r < 1
      · clear h1
        go_enter Try.func15, Try.ntmps15
        go_wp2_with fail
        go_ret2
        exact ⟨rfl, rfl⟩
      · have h3 : t < r := by omega
        clear h1
        go_enter Try.func15, Try.ntmps15
        go_wp2_with fail
        go_ret2
        exact ⟨rfl, rfl⟩
    · have hF : Hid (kthF l r = (kthGo r l, 0)) := by show _ = _; unfold kthF; rw [if_neg h0, if_neg h1]
      rw [hF.out]
      generalize hG : kthGo r l = G
      replace hG := hide hG
      have hr1 : ¬ r < 1 := fun k => h1 (.inl k)
      have hr2 : ¬ tot l < r := fun k => h1 (.inr k)
      have hcell : Hid (∀ i, ∀ hi : i < l.length, ∃ bb c, v = .slice (some ⟨bb, 0, none⟩) l.length c ∧ w.cell? ⟨bb, i * 2, none⟩ = some (.int .i64 l[i].1) ∧ w.cell? ⟨bb, i * 2 + 1, none⟩ = some (.int .i64 l[i].2)) := fun i hi => h.at hi
      have hpos := hide ho.pos
      obtain ⟨b, c, rfl, _, _⟩ := h.at hn
      have hcell2 : Hid (∀ i, ∀ hi : i < l.length, w.cell? ⟨b, i * 2, none⟩ = some (.int .i64 l[i].1) ∧ w.cell? ⟨b, i * 2 + 1, none⟩ = some (.int .i64 l[i].2)) := fun i hi => by
        obtain ⟨b', c', e, k1, k2⟩ := hcell.out i hi
        injection e with e1
        injection e1 with e1
        injection e1 with e1
        subst e1
        exact ⟨k1, k2⟩
      obtain ⟨t, ht⟩ : ∃ t, tot l = t := ⟨_, rfl⟩
      rw [ht] at c1 hm hr2
      replace ht := hide ht
      clear h ho h0 h1 hcell
      go_enter Try.func15, Try.ntmps15
      go_wp2_with fail
      go_loop [1, 6] (fun s k => ∃ (q : Int) (i : Nat), i < l.length ∧ 1 ≤ q ∧ q ≤ tot (l.drop i) ∧ q ≤ t ∧ s = .int .i64 q ∧ k = .int .i64 i ∧ Hid (kthGo q (l.drop i) = G)) (fun _ k => l.length - (intOf k).toNat)
      case atStart => exact ⟨r, 0, hn, by omega, by rw [List.drop_zero, ht.out]; omega, by omega, rfl, rfl, by show _ = _; rw [List.drop_zero, hG.out]⟩
      case round =>
        obtain ⟨q, i, hil, hq1, hq2, hq3, rfl, rfl, hgo⟩ := hrel
        obtain ⟨d0, d1⟩ := hcell2.out i hil
        have hp1 := hpos.out l[i] (List.getElem_mem hil)
        have hil2 : (i : Int) < (l.length : Int) := by omega
        rw [List.drop_eq_getElem_cons hil] at hgo hq2
        generalize l[i] = p at *
        obtain ⟨x, y⟩ := p
        simp only at d0 d1 hp1
        by_cases hqy : q ≤ y
        · have hres : Hid (x = G) := by show _ = _; rw [← hgo.out, kth_at hqy]
          have hqy2 : ¬ y < q := by omega
          clear hq2
          go_wp2_with fail
          go_ret2
          exact ⟨by rw [← hres.out]; rfl, rfl⟩
        · have hgo2 : Hid (kthGo (q - y) (l.drop (i + 1)) = G) := by show _ = _; rw [← hgo.out, kth_on hqy]
          have hq4 : q - y ≤ tot (l.drop (i + 1)) := by rw [tot] at hq2; simp only at hq2; omega
          have hq5 : 1 ≤ q - y := by omega
          have hil3 : i + 1 < l.length := by
            by_cases hlt : i + 1 < l.length
            · exact hlt
            · rw [List.drop_of_length_le (by omega)] at hq4
              simp only [tot] at hq4
              omega
          have hq4h := hide hq4
          clear hq2 hq4
          go_wp2_with fail
          go_round
          case rel => exact ⟨q - y, i + 1, hil3, by omega, hq4h.out, by omega, rfl, by go_num, hgo2⟩
          case measure => simp [intOf]; omega

def endsF (l : List Rg) : Int × Int × Bool := match l with
  | [] => (0, 0, false)
  | p :: r => (p.1, ((p :: r).getLast (by simp)).1, true)
theorem ends_nil (g : Nat) (L t : Int) (v : Value) (w : World) (h : BagT w g L t [] v) :
    Calls Try.prog 21 #[.pointer (some ⟨g, 0, none⟩)] w fun e w' => e = .returned (.tuple #[.int .i64 0, .int .i64 0, .bool false]) ∧ w = w' := by
  have hl := hide (bagLen_c g L t [] v w h)
  clear h
  go_enter Try.func21, Try.ntmps21
  go_wp2_with (go_at_call 32; refine hl.out.mono ?_; rintro e w1 ⟨rfl, rfl⟩)
  go_ret3
  exact ⟨rfl, rfl⟩
set_option maxRecDepth 100000 in
theorem ends_cons (g : Nat) (L t : Int) (l : List Rg) (v : Value) (w : World) (h : BagT w g L t l v) (hl : l.length ≤ 1000000) (h0 : 0 < l.length) :
    Calls Try.prog 21 #[.pointer (some ⟨g, 0, none⟩)] w fun e w' => e = .returned (.tuple #[.int .i64 (l[0]).1, .int .i64 (l[l.length - 1]).1, .bool true]) ∧ Below w.heap.size w w' := by
  have hlc := hide (bagLen_c g L t l v w h)
  obtain ⟨c0, c1, c2, f1, f2, hg⟩ := bag_cells h
  obtain ⟨b, c, hv, d0, -⟩ := h.at h0
  obtain ⟨b', c', hv', d1, -⟩ := h.at (show l.length - 1 < l.length by omega)
  rw [hv] at hv'
  injection hv' with e1
  injection e1 with e1
  injection e1 with e1
  subst e1 hv
  rw [Nat.zero_mul] at d0
  generalize l[0].1 = x at *
  generalize l[l.length - 1].1 = y at *
  obtain ⟨m, hm⟩ : ∃ m, l.length = m + 1 := ⟨l.length - 1, by omega⟩
  rw [hm] at c2 hlc d1 hl
  rw [Nat.add_sub_cancel] at d1
  clear h hm h0
  have hw1 := IntWalk.i64_in ((((m + 1 : Nat)) : Int) - 1) ⟨by omega, by omega⟩
  have k1 : (((m + 1 : Nat)) : Int) - 1 = (m : Int) := by omega
  rw [k1] at hw1
  have k2 : ¬ (((m + 1 : Nat)) : Int) = 0 := by omega
  have k3 : ((((m + 1 : Nat)) : Int) == 0) = false := by simpa using k2
  have k4 : (m : Int) < (((m + 1 : Nat)) : Int) := by omega
  have k5 : (0 : Int) < (((m + 1 : Nat)) : Int) := by omega
  go_enter Try.func21, Try.ntmps21
  go_wp2_with (go_at_call 32; refine hlc.out.mono ?_; rintro e w1 ⟨rfl, rfl⟩)
  go_quiet (fail)
  go_wp2_with fail
  go_ret3
  exact ⟨rfl, below_drewN (Below.refl _ _) _⟩
end Go.Proofs.Ytkjihbaiofocgaa

/- The law GroveSets, walked; the set of a list. By the prover of this repo. -/
import Derived.Test.YtcpakoobgcdekaaDoorGroveJ
namespace Go.Proofs.YtcpakoobgcdekaaDoor
open Go.RowKit Go.Shelf

theorem bits_eq {s t : Nat} (h : ∀ j, s.testBit j = t.testBit j) : s = t := Nat.eq_of_testBit_eq h
theorem law28_set (L : List Nat) (v : Value) (w : World) (hv : Its w v (intN L)) (hL : ∀ x ∈ L, x < 48) (hl : L.length ≤ 100000) :
    Calls Tryd.prog 27 #[v] w fun e w' => ∃ s : Nat, e = .returned (.int .u64 s) ∧ s < 281474976710656 ∧ (∀ j, s.testBit j = decide (j ∈ L)) ∧ w = w' := by
  obtain ⟨A, c, rfl, _, _, _, hr⟩ := hv
  obtain ⟨s, hs, hs1, hs2⟩ := of_set hL
  have h1 := ref27_of A (intN L).length c (intN L) w rfl hr (by rw [intN_length]; omega)
  rw [hs] at h1
  have h1 := hide h1
  have hs2 := hide hs2
  clear hr hs
  go_enter Tryd.func27, Tryd.ntmps27
  go_wp2_with (go_at_call 61; refine h1.out.mono ?_; rintro e w1 ⟨rfl, rfl⟩)
  go_ret
  exact ⟨s, rfl, hs1, hs2.out, rfl⟩

theorem onway_walk {p : List Int} {i : Int} {L : List Nat} (h0 : wrongF p i = 0) (h : OnWay p i p.length L) (j : Nat) : j ∈ L ↔ j ∈ walkF p 48 i.toNat := by
  obtain ⟨hb, hi0, hi9⟩ := wrong_ok h0
  obtain ⟨i, rfl⟩ := Int.eq_ofNat_of_zero_le hi0
  obtain ⟨hWy, _, h48, _⟩ := ways_of_right hb
  have hi : i < p.length := by omega
  have hg := (hgt_of_ways hWy hi).1
  rw [h j, Int.toNat_natCast]
  constructor
  · rintro ⟨h1, h2⟩
    obtain ⟨w, hw⟩ := hWy j h1
    rw [hw] at h2
    exact walk_mem' hWy h1 hw 48 i hg h2
  · intro k
    obtain ⟨h1, w, hw, h2⟩ := walk_mem hWy 48 i j hi hg k
    exact ⟨h1, by rw [hw]; exact h2⟩

set_option maxRecDepth 100000 in
set_option maxHeartbeats 1000000 in
theorem groveSets_walk (A : Option Addr) (n c : Nat) (p : List Int) (i : Int) (w : World) (hT : Tz w) (hl : p.length = n) (hnc : n ≤ c) (hc : c ≤ maxLen) (hr : Rd w A n 1 (fun i => .int .i64 (p.getD i 0))) (_hw : ∀ x ∈ p, (Lit.int .i64 x).wf = true)
    (_hi : -9223372036854775808 ≤ i ∧ i ≤ 9223372036854775807) :
    Calls Tryd.prog 5 #[.slice A n c, .int .i64 i] w fun e w' => e = .returned (.bool true) ∧ Below w.heap.size w w' := by
  subst hl
  by_cases h100 : p.length ≤ 100
  · have c1 := hide (fun (W : World) (h : Below w.heap.size w W) => grove_kids2 A c p i W (hr.of_below (Nat.le_refl _) h) (by omega))
    have c2 := hide (fun (W : World) (h : Below w.heap.size w W) => grove_below A c p i W (hr.of_below (Nat.le_refl _) h) (by omega) (hT.of_below (Nat.le_refl _) h))
    have c3 := hide (fun (W : World) (h : Below w.heap.size w W) => grove_way A c p i W (hr.of_below (Nat.le_refl _) h) (by omega))
    have c4 := hide (fun (W : World) (h : Below w.heap.size w W) => ref28_right A c p W (hr.of_below (Nat.le_refl _) h) (by omega))
    have hal := hide (fun (W : World) (h : Below w.heap.size w W) => alive28 W (hT.of_below (Nat.le_refl _) h))
    by_cases h0 : wrongF p i = 0
    · obtain ⟨hb, hi0, hi9⟩ := wrong_ok h0
      obtain ⟨hWy, _, h48, hro⟩ := ways_of_right hb
      have hway : wayV p i = (upF p 48 i).getD [] := by unfold wayV; rw [if_pos h0]
      have hwl : (wayV p i).length ≤ 48 := by
        rw [hway]
        cases h : upF p 48 i with
        | none => simp
        | some v => exact (upF_length h).2.2.1
      have c5 : Hid (∀ (W : World) (h : Below w.heap.size w W), Calls Tryd.prog 26 #[.slice A p.length c, .int .i64 i] W fun e w' => ∃ v b, e = .returned (.tuple #[v, .bool b]) ∧ Its w' v (wayV p i) ∧ Below W.heap.size W w') := fun W h => by
        rw [hway]
        obtain ⟨i, rfl⟩ := Int.eq_ofNat_of_zero_le hi0
        refine (ref_way A c p i W (hr.of_below (Nat.le_refl _) h) (by omega) (by omega)).mono ?_
        rintro e w' ⟨v, rfl, h, hb⟩
        exact ⟨v, _, rfl, h, hb⟩
      have c6 := hide (fun (W : World) (h : Below w.heap.size w W) => ref28_kids A c p i W (hr.of_below (Nat.le_refl _) h) (by omega))
      have c7 := hide (fun (W : World) (h : Below w.heap.size w W) => ref28_below A c p i W (hr.of_below (Nat.le_refl _) h) (by omega))
      have hkl : ∀ x ∈ kidsL p i, x < 48 := fun x hx => by have := (kidsL_mem.1 hx).1; omega
      have hkn : (kidsL p i).length ≤ 48 := by
        unfold kidsL
        exact Nat.le_trans (List.length_filter_le _ _) (by simp; omega)
      have c8 := hide (fun (W : World) (v : Value) (h : Its W v (intN (kidsL p i))) => law28_set (kidsL p i) v W h hkl (by omega))
      have c9 := hide (fun (L : List Nat) (hL : OnWay p i p.length L) (hl : L.length ≤ 48 * p.length) (W : World) (v : Value) (h : Its W v (intN L)) => law28_set L v W h (fun x hx => by have := ((hL x).1 hx).1; omega) (by omega))
      have hS := hide (fun (W : World) (a b : Value) (h : Its W a (wayV p i)) (k : Its W b (wayV p i)) => same_its (wayV p i) W a b (by omega) h k)
      have f1 := hide (fun (s t : Nat) (h : ∀ j, s.testBit j = (decide (wrongF p i = 0) && decide (j ∈ kidsL p i))) (k : ∀ j, t.testBit j = decide (j ∈ kidsL p i)) => show s = t from bits_eq fun j => by rw [h, k, decide_eq_true h0, Bool.true_and])
      have f2 := hide (fun (s t : Nat) (L : List Nat) (hL : OnWay p i p.length L) (h : BelF p i s) (k : ∀ j, t.testBit j = decide (j ∈ L)) => show s = t from bits_eq fun j => by rw [h.2, k, decide_eq_true h0, Bool.true_and, Bool.eq_iff_iff]; simp [onway_walk h0 hL j])
      rw [hb] at c4
      rw [h0] at c1 c2 c3
      rw [h0] at f1
      unfold BelF at c2 f2
      rw [h0] at c2 f2
      generalize wayV p i = Wy at *
      generalize kidsL p i = Kl at *
      generalize walkF p 48 i.toNat = Wk at *
      obtain ⟨n, hn⟩ : ∃ n, Hid (p.length = n) := ⟨_, rfl⟩
      generalize OnWay p i p.length = OW at *
      rw [hn.out] at h100 hnc hi9 c1 c2 c3 c4 c5 c6 c7 c9 ⊢
      clear hr hT hWy hro hway hwl h0 hb hkl hkn
      go_enter Tryd.func5, Tryd.ntmps5
      go_wp2_with fail
      refine (c1.out w (Below.refl _ _)).mono ?_
      rintro e w1 ⟨⟨s1, rfl, _, hs1⟩, hb1⟩
      have k1 := hide hb1
      have hs1 := hide hs1
      clear hb1
      go_wp2_with fail
      refine (c2.out w1 k1.out).mono ?_
      rintro e w2 ⟨⟨s2, rfl, hs2⟩, hb2⟩
      have k2 := hide (bthen k1.out hb2)
      have hs2 := hide hs2
      clear hb2
      go_wp2_with fail
      refine (c3.out w2 k2.out).mono ?_
      rintro e w3 ⟨v3, rfl, hv3, hb3⟩
      have k3 := hide (bthen k2.out hb3)
      have hv3 := hide hv3
      clear hb3
      go_wp2_with fail
      refine (c4.out w3 k3.out).mono ?_
      rintro e w4 ⟨rfl, hb4⟩
      have k4 := hide (bthen k3.out hb4)
      have hv3 := hide (hv3.out.kept hb4)
      clear hb4
      go_wp2_with fail
      refine (c5.out w4 k4.out).mono ?_
      rintro e w5 ⟨v5, b5, rfl, hv5, hb5⟩
      have k5 := hide (bthen k4.out hb5)
      have hv3 := hide (hv3.out.kept hb5)
      have hv5 := hide hv5
      clear hb5
      go_wp2_with fail
      refine (c6.out w5 k5.out).mono ?_
      rintro e w6 ⟨v6, rfl, hv6, hb6⟩
      have k6 := hide (bthen k5.out hb6)
      have hv3 := hide (hv3.out.kept hb6)
      have hv5 := hide (hv5.out.kept hb6)
      have hv6 := hide hv6
      clear hb6
      go_wp2_with fail
      refine (c8.out w6 v6 hv6.out).mono ?_
      rintro e w7 ⟨s7, rfl, _, hs7, rfl⟩
      obtain rfl := f1.out s1 s7 hs1.out hs7
      clear hs7 hv6
      go_wp2_with fail
      refine (c7.out w6 k6.out).mono ?_
      rintro e w8 ⟨v8, L, rfl, hv8, hon, hlL, hb8⟩
      have k8 := hide (bthen k6.out hb8)
      have hv3 := hide (hv3.out.kept hb8)
      have hv5 := hide (hv5.out.kept hb8)
      have hv8 := hide hv8
      clear hb8
      go_wp2_with fail
      refine (c9.out L hon hlL w8 v8 hv8.out).mono ?_
      rintro e w9 ⟨s9, rfl, _, hs9, rfl⟩
      obtain rfl := f2.out s2 s9 L hon hs2.out hs9
      clear hs9 hv8 hon hlL
      go_wp2_with fail
      refine (hS.out w8 v3 v5 hv3.out hv5.out).mono ?_
      rintro e w10 ⟨rfl, hb10⟩
      have k10 := hide (bthen k8.out hb10)
      clear hb10
      go_wp2_with fail
      refine (hal.out w10 k10.out).mono ?_
      rintro e w11 ⟨rfl, hb11⟩
      have k11 := hide (bthen k10.out hb11)
      go_wp2_with fail
      go_ret
      exact ⟨rfl, k11.out⟩
    · have hway : wayV p i = [] := by unfold wayV; rw [if_neg h0]
      rw [hway] at c3
      have f1 := hide (fun (s : Nat) (h : ∀ j, s.testBit j = (decide (wrongF p i = 0) && decide (j ∈ kidsL p i))) => show s = 0 from bits_eq fun j => by rw [h, decide_eq_false h0]; simp)
      have f2 := hide (fun (s : Nat) (h : BelF p i s) => show s = 0 from bits_eq fun j => by rw [h.2, decide_eq_false h0]; simp)
      have hq : wrongF p i = if rightF p = true then 16 else 15 := by
        unfold wrongF at h0 ⊢
        cases hb : rightF p
        · rfl
        · rw [hb] at h0
          simp only [if_true] at h0 ⊢
          by_cases h1 : i < 0 ∨ (p.length : Int) ≤ i
          · rw [if_pos h1]
          · rw [if_neg h1] at h0; exact absurd rfl h0
      have hio : rightF p = true → (i < 0 ∨ (p.length : Int) ≤ i) := fun hb => by
        unfold wrongF at h0
        rw [hb] at h0
        simp only [if_true] at h0
        by_cases h1 : i < 0 ∨ (p.length : Int) ≤ i
        · exact h1
        · rw [if_neg h1] at h0; exact absurd rfl h0
      cases hb : rightF p
      · rw [hb] at c4 hq
        simp only [Bool.false_eq_true, if_false] at hq
        rw [hq] at c1 c2 c3 f1
        generalize kidsL p i = Kl at *
        generalize BelF p i = Bl at *
        obtain ⟨n, hn⟩ : ∃ n, Hid (p.length = n) := ⟨_, rfl⟩
        rw [hn.out] at h100 hnc c1 c2 c3 c4 ⊢
        clear hr hT hway h0 hb hq hio
        go_enter Tryd.func5, Tryd.ntmps5
        go_wp2_with fail
        refine (c1.out w (Below.refl _ _)).mono ?_
        rintro e w1 ⟨⟨s1, rfl, _, hs1⟩, hb1⟩
        obtain rfl := f1.out s1 hs1
        have k1 := hide hb1
        clear hb1 hs1
        go_wp2_with fail
        refine (c2.out w1 k1.out).mono ?_
        rintro e w2 ⟨⟨s2, rfl, hs2⟩, hb2⟩
        obtain rfl := f2.out s2 hs2
        have k2 := hide (bthen k1.out hb2)
        clear hb2 hs2
        go_wp2_with fail
        refine (c3.out w2 k2.out).mono ?_
        rintro e w3 ⟨v3, rfl, ⟨A3, c3', rfl, _⟩, hb3⟩
        have k3 := hide (bthen k2.out hb3)
        clear hb3
        rw [show ([] : List Int).length = 0 from rfl]
        go_wp2_with fail
        refine (c4.out w3 k3.out).mono ?_
        rintro e w4 ⟨rfl, hb4⟩
        have k4 := hide (bthen k3.out hb4)
        clear hb4
        go_wp2_with fail
        refine (hal.out w4 k4.out).mono ?_
        rintro e w5 ⟨rfl, hb5⟩
        have k5 := hide (bthen k4.out hb5)
        go_wp2_with fail
        go_ret
        exact ⟨rfl, k5.out⟩
      · replace hio := hio hb
        rw [hb] at c4 hq
        simp only [if_true] at hq
        rw [hq] at c1 c2 c3 f1
        generalize kidsL p i = Kl at *
        generalize BelF p i = Bl at *
        obtain ⟨n, hn⟩ : ∃ n, Hid (p.length = n) := ⟨_, rfl⟩
        rw [hn.out] at h100 hnc c1 c2 c3 c4 hio ⊢
        clear hr hT hway h0 hb hq
        by_cases hi0 : i < 0
        all_goals
          go_enter Tryd.func5, Tryd.ntmps5
          go_wp2_with fail
          refine (c1.out w (Below.refl _ _)).mono ?_
          rintro e w1 ⟨⟨s1, rfl, _, hs1⟩, hb1⟩
          obtain rfl := f1.out s1 hs1
          have k1 := hide hb1
          clear hb1 hs1
          go_wp2_with fail
          refine (c2.out w1 k1.out).mono ?_
          rintro e w2 ⟨⟨s2, rfl, hs2⟩, hb2⟩
          obtain rfl := f2.out s2 hs2
          have k2 := hide (bthen k1.out hb2)
          clear hb2 hs2
          go_wp2_with fail
          refine (c3.out w2 k2.out).mono ?_
          rintro e w3 ⟨v3, rfl, ⟨A3, c3', rfl, _⟩, hb3⟩
          have k3 := hide (bthen k2.out hb3)
          clear hb3
          rw [show ([] : List Int).length = 0 from rfl]
          go_wp2_with fail
          refine (c4.out w3 k3.out).mono ?_
          rintro e w4 ⟨rfl, hb4⟩
          have k4 := hide (bthen k3.out hb4)
          clear hb4
          go_wp2_with fail
          refine (hal.out w4 k4.out).mono ?_
          rintro e w5 ⟨rfl, hb5⟩
          have k5 := hide (bthen k4.out hb5)
          go_wp2_with fail
          go_ret
          exact ⟨rfl, k5.out⟩
  · have c9 := hide (alive28 w hT)
    obtain ⟨n, hn⟩ : ∃ n, Hid (p.length = n) := ⟨_, rfl⟩
    rw [hn.out] at h100 hnc ⊢
    clear hr
    unfold maxLen at hc
    go_enter Tryd.func5, Tryd.ntmps5
    go_wp2_with fail
    refine c9.out.mono ?_
    rintro e w3 ⟨rfl, hb3⟩
    go_wp2_with fail
    go_ret
    exact ⟨rfl, hb3⟩
end Go.Proofs.YtcpakoobgcdekaaDoor

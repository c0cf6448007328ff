/- The walks of layer 28, on: Below, Hang; the reference's Hang. By the prover of this repo. -/
import Derived.Test.YtcpakoobgcdekaaDoorGroveX
namespace Go.Proofs.YtcpakoobgcdekaaDoor
open Go.RowKit Go.Shelf

theorem ofGo_set : ∀ (L : List Nat) (t : Nat), t < 281474976710656 → (∀ x ∈ L, x < 48) → ∃ s : Nat, ofGo (t : Int) (intN L) = ((s : Int), true) ∧ s < 281474976710656 ∧ ∀ j, s.testBit j = (t.testBit j || decide (j ∈ L))
  | [], t, ht, _ => ⟨t, rfl, ht, fun j => by simp⟩
  | x :: L, t, ht, h => by
    have hx := h x (by simp)
    obtain ⟨t2, hw, ht2, hb⟩ := with_set t x ht hx
    obtain ⟨s, hs, hs1, hs2⟩ := ofGo_set L t2 ht2 (fun y hy => h y (by simp [hy]))
    refine ⟨s, ?_, hs1, fun j => ?_⟩
    · show ofGo (t : Int) ((x : Int) :: intN L) = _
      rw [ofGo, if_pos (by omega), hw, hs]
    · rw [hs2, hb]
      simp [List.mem_cons, Bool.or_assoc]
theorem of_set {L : List Nat} (h : ∀ x ∈ L, x < 48) : ∃ s : Nat, ofF (intN L) = ((s : Int), true) ∧ s < 281474976710656 ∧ ∀ j, s.testBit j = decide (j ∈ L) := by
  obtain ⟨s, h1, h2, h3⟩ := ofGo_set L 0 (by omega) h
  exact ⟨s, h1, h2, fun j => by rw [h3]; simp⟩
/-- All below a sensor, as a set. -/
def BelF (p : List Int) (i : Int) (s : Nat) : Prop := s < 281474976710656 ∧ ∀ j, s.testBit j = (decide (wrongF p i = 0) && decide (j ∈ walkF p 48 i.toNat))
theorem wrong_ok {p : List Int} {i : Int} (h : wrongF p i = 0) : rightF p = true ∧ 0 ≤ i ∧ i < p.length := by
  unfold wrongF at h
  by_cases hr : rightF p = true
  · rw [if_pos hr] at h
    by_cases h1 : i < 0 ∨ (p.length : Int) ≤ i
    · rw [if_pos h1] at h; cases h
    · exact ⟨hr, by omega, by omega⟩
  · rw [if_neg hr] at h; cases h
theorem wrong_bd (p : List Int) (i : Int) : wrongF p i = 0 ∨ wrongF p i = 15 ∨ wrongF p i = 16 := by
  unfold wrongF
  split
  · split
    · exact .inr (.inr rfl)
    · exact .inl rfl
  · exact .inr (.inl rfl)
set_option maxRecDepth 100000 in
theorem grove_below (A : Option Addr) (c : Nat) (p : List Int) (i : Int) (w : World) (hr : Rd w A p.length 1 (ic p)) (hn : p.length ≤ 1000) (hT : Tz w) :
    Calls Tryd.prog 24 #[.slice A p.length c, .int .i64 i] w fun e w' => (∃ s : Nat, e = .returned (.tuple #[.int .u64 s, .int .i64 (wrongF p i)]) ∧ BelF p i s) ∧ Below w.heap.size w w' := by
  have h1 := hide (grove_wrong A c p i w hr hn)
  have hbd := wrong_bd p i
  by_cases h0 : wrongF p i = 0
  · obtain ⟨hb, hi0, hi9⟩ := wrong_ok h0
    obtain ⟨i, rfl⟩ := Int.eq_ofNat_of_zero_le hi0
    have hi : i < p.length := by omega
    obtain ⟨hWy, _, h48, hro⟩ := ways_of_right hb
    have hg := (hgt_of_ways hWy hi).1
    have h2 := hide (fun W (h : Below w.heap.size w W) => grove_walk A c p 48 i W (hr.of_below (Nat.le_refl _) h) h48 (hT.of_below (Nat.le_refl _) h) hWy hi hg (Nat.le_refl _))
    have hlen := walk_length hWy h48 hi hg
    obtain ⟨s, hs, hs1, hs2⟩ := of_set (L := walkF p 48 i) (fun x hx => by have := (walk_mem hWy 48 i x hi hg hx).1; omega)
    have hfin : Hid (BelF p (i : Int) s) := ⟨hs1, fun j => by rw [hs2, decide_eq_true h0, Int.toNat_natCast]; rfl⟩
    have h3 := fun (a : Option Addr) (c : Nat) (W : World) (h : Rd W a (intN (walkF p 48 i)).length 1 (ic (intN (walkF p 48 i)))) => crew_of a _ c (intN (walkF p 48 i)) W rfl h (by rw [intN_length]; omega)
    rw [hs] at h3
    rw [h0] at h1 ⊢
    have h3 := hide h3
    generalize intN (walkF p 48 i) = Lw at *
    clear hr hbd hs hs2 hg hWy hro h0
    go_enter Tryd.func24, Tryd.ntmps24
    go_wp2_with (first
      | (go_at_call 53; refine h1.out.mono ?_; rintro e w1 ⟨rfl, hb1⟩; have h4 := hide (h2.out w1 hb1); have hb1 := hide hb1)
      | (go_at_call 56; refine h4.out.mono ?_; rintro e w2 ⟨v, rfl, ⟨A2, c2, rfl, _, _, _, hr2⟩, hb2⟩; have h5 := hide (h3.out A2 c2 w2 hr2); have hb2 := hide hb2; clear hr2)
      | (go_at_call 60; refine h5.out.mono ?_; rintro e w3 ⟨rfl, rfl⟩))
    go_ret2
    exact ⟨⟨s, rfl, hfin.out⟩, bthen hb1.out hb2.out⟩
  · have hfin : Hid (BelF p i 0) := ⟨by omega, fun j => by rw [decide_eq_false h0]; simp⟩
    generalize wrongF p i = q at *
    have hq : (q == 0) = false := by simpa using h0
    have hq2 : (q != 0) = true := by simpa using h0
    clear hr
    go_enter Tryd.func24, Tryd.ntmps24
    go_wp2_with (go_at_call 53; refine h1.out.mono ?_; rintro e w1 ⟨rfl, hb1⟩; have hb1 := hide hb1)
    go_ret2
    exact ⟨⟨0, rfl, hfin.out⟩, hb1.out⟩

/-- The parents of a tree in which a sensor has another parent. -/
def hangF (p : List Int) (i u : Int) : List Int × Int :=
  if wrongF p i = 0 then (if wrongF p u = 0 then (if rightF (p.set i.toNat u) = true then (p.set i.toNat u, 0) else ([], 15)) else ([], wrongF p u)) else ([], wrongF p i)
set_option maxRecDepth 100000 in
set_option maxHeartbeats 1000000 in
theorem grove_hang (A : Option Addr) (c : Nat) (p : List Int) (i u : Int) (w : World) (hr : Rd w A p.length 1 (ic p)) (hA : A = none → p.length = 0) (hn : p.length ≤ 1000) :
    Calls Tryd.prog 12 #[.slice A p.length c, .int .i64 i, .int .i64 u] w fun e w' => ∃ v, e = .returned (.tuple #[v, .int .i64 (hangF p i u).2]) ∧ Its w' v (hangF p i u).1 ∧ Below w.heap.size w w' := by
  have h1 := hide (grove_wrong A c p i w hr hn)
  have h2 := hide (fun W (h : Below w.heap.size w W) => grove_wrong A c p u W (hr.of_below (Nat.le_refl _) h) hn)
  unfold hangF
  by_cases h0 : wrongF p i = 0
  · rw [if_pos h0]
    by_cases h9 : wrongF p u = 0
    · rw [if_pos h9]
      obtain ⟨hb, hi0, hi9⟩ := wrong_ok h0
      obtain ⟨i, rfl⟩ := Int.eq_ofNat_of_zero_le hi0
      have hi : i < p.length := by omega
      have h3 := hide (fun W (h : Below w.heap.size w W) => clone_ints A c p W (hr.of_below (Nat.le_refl _) h) hA (by omega))
      rw [Int.toNat_natCast]
      rw [h0] at h1
      rw [h9] at h2
      have hput := hide (fun (w : World) (base : Nat) (v : Value) => own_put (w := w) (base := base) (v := v) hi)
      have hsl : (p.set i u).length = p.length := List.length_set ..
      have h5 := fun (A : Option Addr) (c : Nat) (W : World) (h : Rd W A (p.set i u).length 1 (ic (p.set i u))) => grove_right A c (p.set i u) W h (by rw [hsl]; exact hn)
      rw [hsl] at h5
      have h5 := hide h5
      have hits : ∀ (A : Option Addr) (c : Nat) (W : World), p.length ≤ c → c ≤ maxLen → (A = none → (p.set i u).length = 0) → Rd W A (p.set i u).length 1 (ic (p.set i u)) → Its W (.slice A p.length c) (p.set i u) := fun A c W h1 h2 h3 h => ⟨A, c, by rw [hsl], h3, by rw [hsl]; exact h1, h2, h⟩
      rw [hsl] at hits
      have hits := hide hits
      generalize hq : p.set i u = q at *
      obtain ⟨n, hnn⟩ : ∃ n, Hid (p.length = n) := ⟨_, rfl⟩
      rw [hnn.out] at hi hn h1 h2 h3 h5 hput hits ⊢
      have hqH := hide hq
      clear hr hA hi9 h0 h9 hb hq hsl
      cases hR : rightF q
      · rw [hR] at h5
        simp only [Bool.false_eq_true, if_false]
        go_enter Tryd.func12, Tryd.ntmps12
        go_wp2_with (first
          | (go_at_call 53; refine h1.out.mono ?_; rintro e w1 ⟨rfl, hb1⟩; have h4 := hide (h2.out w1 hb1); have hb1 := hide hb1; clear h1 h2)
          | (go_at_call 53; refine h4.out.mono ?_; rintro e w2 ⟨rfl, hb2⟩; have hb12 := hide (bthen hb1.out hb2); have h6 := hide (h3.out w2 hb12.out); clear h4 h3)
          | (go_at_call 54; refine h6.out.mono ?_; rintro e w3 ⟨v, rfl, how, hb3⟩; obtain ⟨g, cap, rfl, hg1, hg2, hg3, hg4, hg5, hg6, hg7⟩ := hput.out w3 _ _ how; have hg8 := hg7 (u : Int); rw [hqH.out] at hg8; have h8 := hide (h5.out _ cap _ hg8); have hg8 := hide hg8; clear hg7; have hb3 := hide hb3; clear how h6)
          | (go_at_call 19; refine h8.out.mono ?_; rintro e w4 ⟨rfl, hb4⟩; have hb4 := hide hb4))
        go_ret2
        refine ⟨_, rfl, Its.nil _, ?_⟩
        exact ((bthen hb12.out hb3.out).trans ((Below.refl _ _).setCell (by have := hb12.out.size; show w.heap.size ≤ g; omega) _)).trans (hb4.out.mono (by have := hb12.out.size; have := hb3.out.size; simp; omega))
      · rw [hR] at h5
        simp only [if_true]
        go_enter Tryd.func12, Tryd.ntmps12
        go_wp2_with (first
          | (go_at_call 53; refine h1.out.mono ?_; rintro e w1 ⟨rfl, hb1⟩; have h4 := hide (h2.out w1 hb1); have hb1 := hide hb1; clear h1 h2)
          | (go_at_call 53; refine h4.out.mono ?_; rintro e w2 ⟨rfl, hb2⟩; have hb12 := hide (bthen hb1.out hb2); have h6 := hide (h3.out w2 hb12.out); clear h4 h3)
          | (go_at_call 54; refine h6.out.mono ?_; rintro e w3 ⟨v, rfl, how, hb3⟩; obtain ⟨g, cap, rfl, hg1, hg2, hg3, hg4, hg5, hg6, hg7⟩ := hput.out w3 _ _ how; have hg8 := hg7 (u : Int); rw [hqH.out] at hg8; have h8 := hide (h5.out _ cap _ hg8); have hg8 := hide hg8; clear hg7; have hb3 := hide hb3; clear how h6)
          | (go_at_call 19; refine h8.out.mono ?_; rintro e w4 ⟨rfl, hb4⟩; have hb4 := hide hb4))
        go_ret2
        refine ⟨_, rfl, (hits.out _ cap _ hg5 hg6 (fun k => by cases k) hg8.out).kept hb4.out, ?_⟩
        exact ((bthen hb12.out hb3.out).trans ((Below.refl _ _).setCell (by have := hb12.out.size; show w.heap.size ≤ g; omega) _)).trans (hb4.out.mono (by have := hb12.out.size; have := hb3.out.size; simp; omega))
    · rw [if_neg h9]
      rw [h0] at h1
      generalize wrongF p u = q at *
      have hq : (q == 0) = false := by simpa using h9
      have hq2 : (q != 0) = true := by simpa using h9
      clear hr hA
      go_enter Tryd.func12, Tryd.ntmps12
      go_wp2_with (first
        | (go_at_call 53; refine h1.out.mono ?_; rintro e w1 ⟨rfl, hb1⟩; have h4 := hide (h2.out w1 hb1); have hb1 := hide hb1; clear h1 h2)
        | (go_at_call 53; refine h4.out.mono ?_; rintro e w2 ⟨rfl, hb2⟩; have hb12 := hide (bthen hb1.out hb2)))
      go_ret2
      exact ⟨_, rfl, Its.nil _, hb12.out⟩
  · rw [if_neg h0]
    generalize wrongF p i = q at *
    have hq : (q == 0) = false := by simpa using h0
    have hq2 : (q != 0) = true := by simpa using h0
    clear hr hA
    go_enter Tryd.func12, Tryd.ntmps12
    go_wp2_with (go_at_call 53; refine h1.out.mono ?_; rintro e w1 ⟨rfl, hb1⟩; have hb1 := hide hb1)
    go_ret2
    exact ⟨_, rfl, Its.nil _, hb1.out⟩
end Go.Proofs.YtcpakoobgcdekaaDoor

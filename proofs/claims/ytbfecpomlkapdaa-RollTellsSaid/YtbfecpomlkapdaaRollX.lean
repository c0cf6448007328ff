/- The walks of layer 6, on: whether two lists are the same, the reference's roll, a node's weight. By the prover of this repo. -/
import Derived.Test.YtbfecpomlkapdaaRollV
namespace Go.Proofs.Ytbfecpomlkapdaa
open Go.RowKit
open TwigM RollM

set_option maxRecDepth 100000 in
set_option maxHeartbeats 1000000 in
theorem eql_c (A B : Option Addr) (c d : Nat) (l m : List Nd) (w : World) (hr : Rd w A l.length 2 (ndc l)) (hs : Rd w B m.length 2 (ndc m)) (hl : l.length ≤ 1000000) (hm : m.length ≤ 1000000) :
    Calls Try.prog 65 #[.slice A l.length c, .slice B m.length d] w fun e w' => e = .returned (.bool (decide (l = m))) ∧ Below w.heap.size w w' := by
  by_cases hlm : l.length = m.length
  · obtain ⟨n, hn⟩ : ∃ n, Hid (l.length = n) := ⟨_, rfl⟩
    rw [hn.out] at hl
    have hrn : Hid (Rd w A l.length 2 (ndc l)) := hr
    have hsn : Hid (Rd w B m.length 2 (ndc m)) := hs
    have hmn : Hid (m.length = n) := by show _ = _; rw [← hlm, hn.out]
    have h0 : Hid (decide (l = m) = decide (l.drop 0 = m.drop 0)) := rfl
    generalize decide (l = m) = G at *
    rw [hn.out, hmn.out]
    clear hr hs hlm hm
    go_enter Try.func65, Try.ntmps65
    go_wp2_with fail
    go_loopw [13] (fun k wr => ∃ (i : Nat), i ≤ n ∧ k = .int .i64 i ∧ Hid (G = decide (l.drop i = m.drop i)) ∧ Below w.heap.size w wr) (fun k _ => n - (intOf k).toNat)
    case atStart => exact ⟨0, by omega, rfl, h0.out, Below.refl _ _⟩
    case round =>
      obtain ⟨i, hi, rfl, hgo, hbel⟩ := hrel
      by_cases hlt : i < n
      · have hil : i < l.length := by rw [hn.out]; exact hlt
        have him : i < m.length := by rw [hmn.out]; exact hlt
        obtain ⟨b, off, rfl, hb, c0, c1⟩ := rd_at (hrn.out.of_below (Nat.le_refl _) hbel) hil
        obtain ⟨b', off', rfl, hb', d0, d1⟩ := rd_at (hsn.out.of_below (Nat.le_refl _) hbel) him
        rw [List.drop_eq_getElem_cons hil, List.drop_eq_getElem_cons him] at hgo
        generalize l[i] = p at *
        generalize m[i] = q at *
        obtain ⟨x, y⟩ := p
        obtain ⟨x', y'⟩ := q
        simp only at c0 c1 d0 d1
        by_cases hx : x = x' ∧ y = y'
        · obtain ⟨rfl, rfl⟩ := hx
          have hgo2 : Hid (G = decide (l.drop (i + 1) = m.drop (i + 1))) := by show _ = _; rw [hgo.out]; simp
          go_wp2_with fail
          go_quiet (fail)
          go_wp2_with fail
          go_roundw
          case rel => exact ⟨i + 1, by omega, by go_num, hgo2, below_drewN hbel _⟩
          case measure => simp [intOf]; omega
        · have hres : Hid (false = G) := by show _ = _; rw [hgo.out]; symm; rw [decide_eq_false_iff_not]; intro k; apply hx; injection k with k1 k2; injection k1 with k3 k4; exact ⟨k3, k4⟩
          by_cases hx1 : x = x'
          · subst hx1
            have hne : (y == y') = false := by simp; exact fun k => hx ⟨rfl, k⟩
            clear hx
            go_wp2_with fail
            go_quiet (fail)
            go_wp2_with fail
            go_ret
            exact ⟨by rw [← hres.out]; rfl, below_drewN hbel _⟩
          · have hne : (x == x') = false := by simpa using hx1
            clear hx hx1
            go_wp2_with fail
            go_quiet (fail)
            go_wp2_with fail
            go_ret
            exact ⟨by rw [← hres.out]; rfl, below_drewN hbel _⟩
      · have hres : Hid (true = G) := by
          show _ = _
          rw [hgo.out, List.drop_of_length_le (by rw [hn.out]; omega), List.drop_of_length_le (by rw [hmn.out]; omega)]
          simp
        go_wp2_with fail
        go_ret
        exact ⟨by rw [← hres.out]; rfl, hbel⟩
  · rw [decide_eq_false (fun k => hlm (by rw [k]))]
    have hne : ((l.length : Int) != (m.length : Int)) = true := by simp; omega
    generalize l.length = n at *
    generalize m.length = k at *
    clear hlm
    go_enter Try.func65, Try.ntmps65
    go_wp2_with fail
    go_ret
    exact ⟨rfl, Below.refl _ _⟩

set_option maxRecDepth 100000 in
set_option maxHeartbeats 1000000 in
theorem ref06_same (A B : Option Addr) (c d : Nat) (l m : List Nd) (w : World) (hr : Rd w A l.length 2 (ndc l)) (hs : Rd w B m.length 2 (ndc m)) (hl : l.length ≤ 1000000) (hm : m.length ≤ 1000000) :
    Calls Try.prog 42 #[.slice A l.length c, .slice B m.length d] w fun e w' => e = .returned (.bool (decide (l = m))) ∧ Below w.heap.size w w' := by
  by_cases hlm : l.length = m.length
  · obtain ⟨n, hn⟩ : ∃ n, Hid (l.length = n) := ⟨_, rfl⟩
    rw [hn.out] at hl
    have hrn : Hid (Rd w A l.length 2 (ndc l)) := hr
    have hsn : Hid (Rd w B m.length 2 (ndc m)) := hs
    have hmn : Hid (m.length = n) := by show _ = _; rw [← hlm, hn.out]
    have h0 : Hid (decide (l = m) = decide (l.drop 0 = m.drop 0)) := rfl
    generalize decide (l = m) = G at *
    rw [hn.out, hmn.out]
    clear hr hs hlm hm
    go_enter Try.func42, Try.ntmps42
    go_wp2_with fail
    go_loopw [5] (fun k wr => ∃ (i : Nat), i ≤ n ∧ k = .int .i64 i ∧ Hid (G = decide (l.drop i = m.drop i)) ∧ Below w.heap.size w wr) (fun k _ => n - (intOf k).toNat)
    case atStart => exact ⟨0, by omega, rfl, h0.out, Below.refl _ _⟩
    case round =>
      obtain ⟨i, hi, rfl, hgo, hbel⟩ := hrel
      by_cases hlt : i < n
      · have hil : i < l.length := by rw [hn.out]; exact hlt
        have him : i < m.length := by rw [hmn.out]; exact hlt
        obtain ⟨b, off, rfl, hb, c0, c1⟩ := rd_at (hrn.out.of_below (Nat.le_refl _) hbel) hil
        obtain ⟨b', off', rfl, hb', d0, d1⟩ := rd_at (hsn.out.of_below (Nat.le_refl _) hbel) him
        rw [List.drop_eq_getElem_cons hil, List.drop_eq_getElem_cons him] at hgo
        generalize l[i] = p at *
        generalize m[i] = q at *
        obtain ⟨x, y⟩ := p
        obtain ⟨x', y'⟩ := q
        simp only at c0 c1 d0 d1
        by_cases hx : x = x' ∧ y = y'
        · obtain ⟨rfl, rfl⟩ := hx
          have hgo2 : Hid (G = decide (l.drop (i + 1) = m.drop (i + 1))) := by show _ = _; rw [hgo.out]; simp
          go_wp2_with fail
          go_quiet (fail)
          go_wp2_with fail
          go_roundw
          case rel => exact ⟨i + 1, by omega, by go_num, hgo2, below_drewN hbel _⟩
          case measure => simp [intOf]; omega
        · have hres : Hid (false = G) := by show _ = _; rw [hgo.out]; symm; rw [decide_eq_false_iff_not]; intro k; apply hx; injection k with k1 k2; injection k1 with k3 k4; exact ⟨k3, k4⟩
          by_cases hx1 : x = x'
          · subst hx1
            have hne : (y == y') = false := by simp; exact fun k => hx ⟨rfl, k⟩
            clear hx
            go_wp2_with fail
            go_quiet (fail)
            go_wp2_with fail
            go_ret
            exact ⟨by rw [← hres.out]; rfl, below_drewN hbel _⟩
          · have hne : (x == x') = false := by simpa using hx1
            clear hx hx1
            go_wp2_with fail
            go_quiet (fail)
            go_wp2_with fail
            go_ret
            exact ⟨by rw [← hres.out]; rfl, below_drewN hbel _⟩
      · have hres : Hid (true = G) := by
          show _ = _
          rw [hgo.out, List.drop_of_length_le (by rw [hn.out]; omega), List.drop_of_length_le (by rw [hmn.out]; omega)]
          simp
        go_wp2_with fail
        go_ret
        exact ⟨by rw [← hres.out]; rfl, hbel⟩
  · rw [decide_eq_false (fun k => hlm (by rw [k]))]
    have hne : ((l.length : Int) != (m.length : Int)) = true := by simp; omega
    generalize l.length = n at *
    generalize m.length = k at *
    clear hlm
    go_enter Try.func42, Try.ntmps42
    go_wp2_with fail
    go_ret
    exact ⟨rfl, Below.refl _ _⟩

theorem roll_same (A B : Option Addr) (c d : Nat) (l m : List Nd) (w : World) (hr : Rd w A l.length 2 (ndc l)) (hs : Rd w B m.length 2 (ndc m)) (hl : l.length ≤ 1000000) (hm : m.length ≤ 1000000) :
    Calls Try.prog 45 #[.slice A l.length c, .slice B m.length d] w fun e w' => e = .returned (.bool (decide (l = m))) ∧ Below w.heap.size w w' := by
  have h := hide (eql_c A B c d l m w hr hs hl hm)
  generalize decide (l = m) = G at *
  generalize l.length = n at *
  generalize m.length = k at *
  go_enter Try.func45, Try.ntmps45
  go_wp2_with fail
  refine h.out.mono ?_
  rintro e w1 ⟨rfl, hb1⟩
  go_wp2_with fail
  go_ret
  exact ⟨rfl, hb1⟩
theorem ris_c (l : Int) (w : World) : Calls Try.prog 57 #[.int .i64 l] w fun e w' => e = .returned (.bool (uniB l)) ∧ w = w' := by
  unfold uniB
  by_cases h : 1 ≤ l ∧ l ≤ 48
  · rw [decide_eq_true h]; exact ris_yes l w h.1 h.2
  · rw [decide_eq_false h]; exact ris_no l w h
end Go.Proofs.Ytbfecpomlkapdaa

/- The law LinePrints, walked. By the prover of this repo. -/
import Derived.Test.YtcpakoobgcdekaaDoorLineS
namespace Go.Proofs.YtcpakoobgcdekaaDoor
open Go.RowKit

set_option maxRecDepth 100000 in
set_option maxHeartbeats 1000000 in
theorem ref35_sameG (a b : Cmd) (v u : Value) (w : World) (hv : Its w v a.2.2.2) (hu : Its w u b.2.2.2) :
    Calls Tryd.prog 41 #[cmdV a.1 a.2.1 a.2.2.1 v, cmdV b.1 b.2.1 b.2.2.1 u] w fun e w' => e = .returned (.bool (sameF a b)) ∧ Below w.heap.size w w' := by
  by_cases hab : a = b
  · subst hab
    rw [show sameF a a = true from decide_eq_true rfl]
    exact ref35_same a.1 a.2.1 a.2.2.1 a.2.2.2 v u w hv hu
  rw [show sameF a b = false from decide_eq_false hab]
  obtain ⟨o, x, y, l⟩ := a
  obtain ⟨o', x', y', m⟩ := b
  simp only [] at hv hu ⊢
  have hb0 := hide (balloc (balloc0 w (.cells #[.int .i64 o, .string x, .string y, v] 57)) (.cells #[.int .i64 o', .string x', .string y', u] 57))
  have hB1 : Blk ((w.alloc (.cells #[.int .i64 o, .string x, .string y, v] 57)).alloc (.cells #[.int .i64 o', .string x', .string y', u] 57)) w.heap.size 57 #[.int .i64 o, .string x, .string y, v] := (Blk.made w _ _).alloc _
  have hB2 : Blk ((w.alloc (.cells #[.int .i64 o, .string x, .string y, v] 57)).alloc (.cells #[.int .i64 o', .string x', .string y', u] 57)) (w.heap.size + 1) 57 #[.int .i64 o', .string x', .string y', u] := Blk.made_at _ _ _ (by simp)
  obtain ⟨A, c, rfl, _, hc1, hc2, hr⟩ := hv
  obtain ⟨B, d, rfl, _, hd1, hd2, hs⟩ := hu
  unfold maxLen at hc2 hd2
  have hrH := hide ((hr.alloc (.cells #[.int .i64 o, .string x, .string y, .slice A l.length c] 57)).alloc (.cells #[.int .i64 o', .string x', .string y', .slice B m.length d] 57))
  have hsH := hide ((hs.alloc (.cells #[.int .i64 o, .string x, .string y, .slice A l.length c] 57)).alloc (.cells #[.int .i64 o', .string x', .string y', .slice B m.length d] 57))
  clear hr hs
  have a0 := hB1.cell 0
  have a1 := hB1.cell 1
  have a2 := hB1.cell 2
  have a3 := hB1.cell 3
  have b0 := hB2.cell 0
  have b1 := hB2.cell 1
  have b2 := hB2.cell 2
  have b3 := hB2.cell 3
  simp only [List.getElem?_toArray, List.getElem?_cons_zero, List.getElem?_cons_succ] at a0 a1 a2 a3 b0 b1 b2 b3
  have l1 := hB1.lt
  have l2 := hB2.lt
  clear hB1 hB2
  by_cases h1 : o = o'
  · subst h1
    by_cases h2 : x = x'
    · subst h2
      by_cases h3 : y = y'
      · subst h3
        have hne : ¬ l = m := fun e => hab (by rw [e])
        by_cases hlm : l.length = m.length
        · obtain ⟨n, hn⟩ : ∃ n, Hid (l.length = n) := ⟨_, rfl⟩
          have hmn : Hid (m.length = n) := by show _ = _; rw [← hlm, hn.out]
          have h0 : Hid (¬ l.drop 0 = m.drop 0) := hne
          rw [hn.out] at hc1 hb0 a0 a1 a2 a3 b0 b1 b2 b3 l1 l2 hrH hsH ⊢
          rw [hmn.out] at hb0 a0 a1 a2 a3 b0 b1 b2 b3 l1 l2 hrH hsH ⊢
          clear hlm hne hd1 hab
          generalize hW2 : (w.alloc (.cells #[.int .i64 o, .string x, .string y, .slice A n c] 57)).alloc (.cells #[.int .i64 o, .string x, .string y, .slice B n d] 57) = W2 at *
          go_enter Tryd.func41, Tryd.ntmps41
          go_wp2_with fail
          go_loopw [5] (fun x wr => ∃ k : Nat, x = .int .i64 k ∧ k ≤ n ∧ Hid (¬ l.drop k = m.drop k) ∧ Below W2.heap.size W2 wr) (fun x _ => n - (intOf x).toNat)
          case atStart => exact ⟨0, rfl, Nat.zero_le _, h0.out, Below.refl _ _⟩
          case round =>
            obtain ⟨k, rfl, hk, hgo, hbel⟩ := hrel
            have q0 := (hbel.cell (p := ⟨w.heap.size, 3, none⟩) l1).trans a3
            have q1 := (hbel.cell (p := ⟨w.heap.size + 1, 3, none⟩) l2).trans b3
            have q2 : w.heap.size < wr.heap.size := Nat.lt_of_lt_of_le l1 hbel.size
            have q3 : w.heap.size + 1 < wr.heap.size := Nat.lt_of_lt_of_le l2 hbel.size
            have hkn : k < n := by
              refine Nat.lt_of_not_le fun h => hgo.out ?_
              rw [List.drop_of_length_le (by rw [hn.out]; exact h), List.drop_of_length_le (by rw [hmn.out]; exact h)]
            have hkl : k < l.length := by rw [hn.out]; exact hkn
            have hkm : k < m.length := by rw [hmn.out]; exact hkn
            have hr' := hrH.out.of_below (Nat.le_refl _) hbel
            have hs' := hsH.out.of_below (Nat.le_refl _) hbel
            rw [← hn.out] at hr'
            rw [← hmn.out] at hs'
            obtain ⟨b, off, rfl, hb, hc⟩ := it_at hr' hkl
            obtain ⟨b', off', rfl, hb', hc'⟩ := it_at hs' hkm
            rw [List.drop_eq_getElem_cons hkl, List.drop_eq_getElem_cons hkm] at hgo
            generalize l[k] = p at *
            generalize m[k] = r at *
            replace hbel := hide hbel
            clear hr' hs'
            by_cases hpr : p = r
            · subst hpr
              have hgo2 : Hid (¬ l.drop (k + 1) = m.drop (k + 1)) := fun e => hgo.out (by rw [e])
              go_wp2_with fail
              go_quiet (fail)
              go_wp2_with fail
              go_roundw
              case rel => exact ⟨k + 1, by go_num, by omega, hgo2, below_drewN hbel.out _⟩
              case measure => simp [intOf] <;> omega
            · have hpq : (p == r) = false := by simpa using hpr
              clear hpr
              go_wp2_with fail
              go_quiet (fail)
              go_wp2_with fail
              go_ret
              exact ⟨rfl, hb0.out.trans ((below_drewN hbel.out _).mono (by rw [← hW2]; simp; omega))⟩
        · have hbq : ((l.length : Int) == (m.length : Int)) = false := by rw [beq_eq_false_iff_ne]; omega
          clear hab hne hlm
          go_enter Tryd.func41, Tryd.ntmps41
          go_wp2_with fail
          go_ret
          exact ⟨rfl, hb0.out⟩
      · have hne := str_ne h3
        clear hab h3
        go_enter Tryd.func41, Tryd.ntmps41
        go_wp2_with fail
        go_ret
        exact ⟨rfl, hb0.out⟩
    · have hne := str_ne h2
      clear hab h2
      go_enter Tryd.func41, Tryd.ntmps41
      go_wp2_with fail
      go_ret
      exact ⟨rfl, hb0.out⟩
  · have hne : (o == o') = false := by simpa using h1
    have hne2 : (o != o') = true := by rw [bne, hne]; rfl
    clear hab
    go_enter Tryd.func41, Tryd.ntmps41
    go_wp2_with fail
    go_ret
    exact ⟨rfl, hb0.out⟩
/-- May a command be tried? -/
def fewF (c : Cmd) : Bool := decide (c.2.2.2.length ≤ 100) && (decide (c.2.1.size ≤ 200) && decide (c.2.2.1.size ≤ 200))
set_option maxRecDepth 100000 in
theorem law35_few (q : Cmd) (A : Option Addr) (c : Nat) (w : World) : Calls Tryd.prog 44 #[cmdV q.1 q.2.1 q.2.2.1 (.slice A q.2.2.2.length c)] w fun e w' => e = .returned (.bool (fewF q)) ∧ Below w.heap.size w w' := by
  obtain ⟨o, x, y, l⟩ := q
  unfold fewF
  simp only []
  have hb0 := hide (balloc0 w (.cells #[.int .i64 o, .string x, .string y, .slice A l.length c] 54))
  generalize l.length = n at *
  by_cases h1 : n ≤ 100
  · rw [decide_eq_true h1, Bool.true_and]
    by_cases h2 : x.size ≤ 200
    · rw [decide_eq_true h2, Bool.true_and]
      by_cases h3 : y.size ≤ 200
      · rw [decide_eq_true h3]
        go_enter Tryd.func44, Tryd.ntmps44
        go_wp2_with fail
        go_ret
        exact ⟨by first | rfl | exact ret_congr (bool_true (by omega)), hb0.out⟩
      · rw [decide_eq_false h3]
        go_enter Tryd.func44, Tryd.ntmps44
        go_wp2_with fail
        go_ret
        exact ⟨by first | rfl | exact ret_congr (bool_false (by omega)), hb0.out⟩
    · rw [decide_eq_false h2, Bool.false_and]
      have h2' : ((x.size : Int) ≤ 200) = False := eq_false (by omega)
      clear h2
      go_enter Tryd.func44, Tryd.ntmps44
      go_wp2_with fail
      go_ret
      exact ⟨by first | rfl | exact ret_congr (bool_false (by omega)), hb0.out⟩
  · rw [decide_eq_false h1, Bool.false_and]
    have h1' : ((n : Int) ≤ 100) = False := eq_false (by omega)
    clear h1
    go_enter Tryd.func44, Tryd.ntmps44
    go_wp2_with fail
    go_ret
    exact ⟨by first | rfl | exact ret_congr (bool_false (by omega)), hb0.out⟩
end Go.Proofs.YtcpakoobgcdekaaDoor

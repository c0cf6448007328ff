/- Right commands: the reference's Right. By the prover of this repo. -/
import Derived.Test.YtcpakoobgcdekaaDoorLineE
namespace Go.Proofs.YtcpakoobgcdekaaDoor
open Go.RowKit

theorem need_same {op : Int} (h : op ≠ 7) : (needF op).2.2 = (needF op).2.1 := by
  rcases op_cases op with h | h
  · rw [need_none h]
  · rcases h with rfl | rfl | rfl | rfl | rfl | rfl | rfl | rfl | rfl | rfl | rfl | rfl | rfl | rfl | rfl | rfl | rfl <;> first | rfl | exact absurd rfl h
theorem str_emp {s : ByteArray} (h : s ≠ ByteArray.empty) : 0 < s.size := by
  rcases Nat.eq_zero_or_pos s.size with k | k
  · exact absurd (str_ext (by rw [nil_of_size s (by omega)]; rfl)) h
  · exact k
set_option maxRecDepth 100000 in
set_option maxHeartbeats 4000000 in
theorem ref35_right (op : Int) (nm ot : ByteArray) (l : List Int) (v : Value) (w : World) (hv : Its w v l) (hl : l.length ≤ 1000000000) :
    Calls Tryd.prog 52 #[cmdV op nm ot v] w fun e w' => e = .returned (.bool (cmdR op nm ot l)) ∧ Below w.heap.size w w' := by
  have hb0 := hide (balloc0 w (.cells #[.int .i64 op, .string nm, .string ot, v] 57))
  have hB0 : Hid (Blk (w.alloc (.cells #[.int .i64 op, .string nm, .string ot, v] 57)) w.heap.size 57 #[.int .i64 op, .string nm, .string ot, v]) := Blk.made _ _ _
  obtain ⟨A, c, rfl, _, _, _, hr⟩ := hv
  have hF : Hid (cmdR op nm ot l = (decide (0 ≤ op ∧ op < 19) && (nameOk nm (decide (0 < (needF op).1)) && (nameOk ot (decide (1 < (needF op).1)) && (rangeOk op l.length && posOk l))))) := rfl
  unfold rangeOk at hF
  by_cases hop : 0 ≤ op ∧ op < 19
  · rw [decide_eq_true hop, Bool.true_and] at hF
    have hN := hide (fun W => ref35_needs op W ⟨hop.1, by omega⟩)
    obtain ⟨hop0, hop9⟩ := hop
    have hop8 : op ≤ 18 := by omega
    obtain ⟨hn2, hlo2, hhi2⟩ := need_le op
    have hsm := hide (need_same (op := op))
    have h64 : Hid (op = 7 → (needF op).2.1 = 0 ∧ (needF op).2.2 = 64) := fun h => by subst h; decide
    have hbad := hide (fun (k : Nat) (hk : k < l.length) (h : l[k] < 0) => posOk_bad hk h)
    have hstep := hide (fun (k : Nat) (hk : k < l.length) (h : posOk (l.take k) = true) => posOk_take h hk)
    have h0 : Hid (posOk (l.take 0) = true) := rfl
    obtain ⟨len, hlen⟩ : ∃ n, Hid (l.length = n) := ⟨_, rfl⟩
    have hall : Hid (posOk (l.take len) = true → posOk l = true) := fun h => by rwa [List.take_of_length_le (by rw [hlen.out]; exact Nat.le_refl _)] at h
    have hrH := hide (hr.alloc (.cells #[.int .i64 op, .string nm, .string ot, .slice A l.length c] 57))
    clear hr
    rw [hlen.out] at hF hl hb0 hB0 hrH ⊢
    generalize cmdR op nm ot l = R at *
    generalize posOk l = Q at *
    generalize (needF op).2.1 = lo at *
    generalize (needF op).2.2 = hi at *
    generalize (needF op).1 = n0 at *
    obtain ⟨i1, hi1⟩ : ∃ i1, Hid (decide (0 < n0) = i1) := ⟨_, rfl⟩
    obtain ⟨i2, hi2⟩ : ∃ i2, Hid (decide (1 < n0) = i2) := ⟨_, rfl⟩
    rw [hi1.out, hi2.out] at hF
    have hn : (n0 = 0 ∧ i1 = false ∧ i2 = false) ∨ (n0 = 1 ∧ i1 = true ∧ i2 = false) ∨ (n0 = 2 ∧ i1 = true ∧ i2 = true) := by
      rw [← hi1.out, ← hi2.out]
      have h : n0 = 0 ∨ n0 = 1 ∨ n0 = 2 := by omega
      rcases h with rfl | rfl | rfl <;> decide
    clear hi1 hi2
    have hop7 : ¬ (18 : Int) < op := by omega
    go_enter Tryd.func52, Tryd.ntmps52
    go_wp2_with fail
    refine (hN.out _).mono ?_
    rintro e w1 ⟨rfl, hb1⟩
    have hB1 := hB0.out.kept hb1
    have hbw := hide (bthen hb0.out hb1)
    have hr1 := hide (hrH.out.kept hb1)
    have c0 := hB1.cell 0
    have c1 := hB1.cell 1
    have c2 := hB1.cell 2
    have c3 := hB1.cell 3
    simp only [List.getElem?_toArray, List.getElem?_cons_zero, List.getElem?_cons_succ] at c0 c1 c2 c3
    have hlt := hB1.lt
    clear hB0 hB1 hb0 hb1 hrH hN
    by_cases hrange : (op = 7 ∧ len ≤ 64) ∨ (op ≠ 7 ∧ len = lo)
    · have hF2 : Hid (R = (nameOk nm i1 && (nameOk ot i2 && Q))) := by
        show _ = _
        rw [hF.out]
        rcases hrange with ⟨h1, h2⟩ | ⟨h1, h2⟩
        · obtain ⟨e1, e2⟩ := h64.out h1
          rw [decide_eq_true (by omega), Bool.true_and]
        · have e1 := hsm.out h1
          rw [decide_eq_true (by omega), Bool.true_and]
      clear hF h64 hsm
      rcases hrange with ⟨rfl, h2⟩ | ⟨h1, rfl⟩
      case' inr => have hb7 : (op == 7) = false := by simpa using h1
      case' inl => have hb7 : ((7 : Int) == 7) = true := rfl
      all_goals
        go_wp2_with fail
        go_loop [5] (fun x => ∃ k : Nat, k ≤ len ∧ x = .int .i64 k ∧ Hid (posOk (l.take k) = true)) (fun x => len - (intOf x).toNat)
        case atStart => exact ⟨0, Nat.zero_le _, rfl, h0⟩
        case round =>
          obtain ⟨k, hk, rfl, hp⟩ := hrel
          by_cases hltk : k < len
          · have hkl : k < l.length := by rw [hlen.out]; exact hltk
            have hr2 := hr1.out
            rw [← hlen.out] at hr2
            obtain ⟨b, off, rfl, hb, hc⟩ := it_at hr2 hkl
            have g1 := hbad.out k hkl
            have g2 := hstep.out k hkl hp.out
            generalize l[k] = x at *
            clear hr2
            by_cases hx : x < 0
            · have hq := g1 hx
              have hres : Hid (R = false) := by show _ = _; rw [hF2.out, hq]; simp
              clear g1 g2 hq hF2 hn
              go_wp2_with fail
              go_ret
              exact ⟨by rw [hres.out]; rfl, hbw.out⟩
            · have hp2 : Hid (posOk (l.take (k + 1)) = true) := by show _ = _; rw [g2]; simp; omega
              clear g1 g2
              go_wp2_with fail
              go_round
              case rel => exact ⟨k + 1, by omega, by go_num, hp2⟩
              case measure => simp [intOf]; omega
          · obtain rfl : k = len := by omega
            have hq := hall.out hp.out
            rw [hq, Bool.and_true] at hF2
            have hN1 := fun W => ref35_name nm W
            have hN2 := fun W => ref35_name ot W
            clear hq hall hp hbad hstep hr1
            unfold nameOk at hF2
            rcases hn with ⟨rfl, rfl, rfl⟩ | ⟨rfl, rfl, rfl⟩ | ⟨rfl, rfl, rfl⟩
            · simp only [Bool.false_eq_true, if_false] at hF2
              clear hN1 hN2
              by_cases e1 : nm = ByteArray.empty
              · by_cases e2 : ot = ByteArray.empty
                · have hres : Hid (R = true) := by show _ = _; rw [hF2.out, decide_eq_true e1, decide_eq_true e2]; rfl
                  subst e1 e2
                  clear hF2
                  go_wp2_with fail
                  go_ret
                  exact ⟨by rw [hres.out]; rfl, hbw.out⟩
                · have hres : Hid (R = false) := by show _ = _; rw [hF2.out, decide_eq_false e2, Bool.and_false]
                  have he2 := isEmpty_str (str_emp e2)
                  subst e1
                  clear hF2 e2
                  go_wp2_with fail
                  go_ret
                  exact ⟨by rw [hres.out]; rfl, hbw.out⟩
              · have hres : Hid (R = false) := by show _ = _; rw [hF2.out, decide_eq_false e1, Bool.false_and]
                have he1 := isEmpty_str (str_emp e1)
                clear hF2 e1
                go_wp2_with fail
                go_ret
                exact ⟨by rw [hres.out]; rfl, hbw.out⟩
            · simp only [Bool.false_eq_true, if_false, if_true] at hF2
              clear hN2
              cases e1 : nameF nm.data.toList
              · have hres : Hid (R = false) := by show _ = _; rw [hF2.out, e1, Bool.false_and]
                rw [e1] at hN1
                replace hN1 := hide hN1
                clear hF2 e1
                go_wp2_with (go_at_call 48; refine (hN1.out _).mono ?_; rintro e w2 ⟨rfl, rfl⟩)
                go_ret
                exact ⟨by rw [hres.out]; rfl, hbw.out⟩
              · rw [e1] at hN1
                replace hN1 := hide hN1
                by_cases e2 : ot = ByteArray.empty
                · have hres : Hid (R = true) := by show _ = _; rw [hF2.out, e1, decide_eq_true e2]; rfl
                  subst e2
                  clear hF2 e1
                  go_wp2_with (go_at_call 48; refine (hN1.out _).mono ?_; rintro e w2 ⟨rfl, rfl⟩)
                  go_ret
                  exact ⟨by rw [hres.out]; rfl, hbw.out⟩
                · have hres : Hid (R = false) := by show _ = _; rw [hF2.out, decide_eq_false e2, Bool.and_false]
                  have he2 := isEmpty_str (str_emp e2)
                  clear hF2 e2 e1
                  go_wp2_with (go_at_call 48; refine (hN1.out _).mono ?_; rintro e w2 ⟨rfl, rfl⟩)
                  go_ret
                  exact ⟨by rw [hres.out]; rfl, hbw.out⟩
            · simp only [if_true] at hF2
              cases e1 : nameF nm.data.toList
              · have hres : Hid (R = false) := by show _ = _; rw [hF2.out, e1, Bool.false_and]
                rw [e1] at hN1
                replace hN1 := hide hN1
                clear hF2 e1 hN2
                go_wp2_with (go_at_call 48; refine (hN1.out _).mono ?_; rintro e w2 ⟨rfl, rfl⟩)
                go_ret
                exact ⟨by rw [hres.out]; rfl, hbw.out⟩
              · rw [e1] at hN1
                replace hN1 := hide hN1
                obtain ⟨q2, e2⟩ : ∃ q2, nameF ot.data.toList = q2 := ⟨_, rfl⟩
                have hres : Hid (R = q2) := by show _ = _; rw [hF2.out, e1, e2, Bool.true_and]
                rw [e2] at hN2
                replace hN2 := hide hN2
                clear hF2 e1 e2
                cases q2
                all_goals
                  go_wp2_with (first
                    | (go_at_call 48; refine (hN1.out _).mono ?_; clear hN1; rintro e w2 ⟨rfl, rfl⟩)
                    | (go_at_call 48; refine (hN2.out _).mono ?_; rintro e w2 ⟨rfl, rfl⟩))
                  go_ret
                  exact ⟨by rw [hres.out]; rfl, hbw.out⟩
    · have hres : Hid (R = false) := by
        show _ = _
        rw [hF.out]
        by_cases h1 : op = 7
        · obtain ⟨e1, e2⟩ := h64.out h1
          rw [decide_eq_false (show ¬ (lo ≤ len ∧ len ≤ hi) from fun h => hrange (.inl ⟨h1, by omega⟩))]; simp
        · have e1 := hsm.out h1
          rw [decide_eq_false (show ¬ (lo ≤ len ∧ len ≤ hi) from fun h => hrange (.inr ⟨h1, by omega⟩))]; simp
      clear hF h64 hsm hn
      by_cases h1 : op = 7
      · subst h1
        have hlen2 : (64 : Int) < len := by have := fun h => hrange (.inl ⟨rfl, h⟩); omega
        clear hrange
        go_wp2_with fail
        go_ret
        exact ⟨by rw [hres.out]; rfl, hbw.out⟩
      · have hb7 : (op == 7) = false := by simpa using h1
        have hlen2 : ((len : Int) == (lo : Int)) = false := by rw [beq_eq_false_iff_ne]; have := fun h => hrange (.inr ⟨h1, h⟩); omega
        have hlen3 : ((len : Int) != (lo : Int)) = true := by rw [bne, hlen2]; rfl
        clear hrange
        go_wp2_with fail
        go_ret
        exact ⟨by rw [hres.out]; rfl, hbw.out⟩
  · have hres : Hid (cmdR op nm ot l = false) := by show _ = _; rw [hF.out, decide_eq_false hop, Bool.false_and]
    generalize cmdR op nm ot l = R at *
    clear hF
    by_cases hop0 : op < 0
    · clear hop
      go_enter Tryd.func52, Tryd.ntmps52
      go_wp2_with fail
      go_ret
      exact ⟨by rw [hres.out]; rfl, hb0.out⟩
    · have hop9 : 18 < op := by omega
      clear hop
      go_enter Tryd.func52, Tryd.ntmps52
      go_wp2_with fail
      go_ret
      exact ⟨by rw [hres.out]; rfl, hb0.out⟩
end Go.Proofs.YtcpakoobgcdekaaDoor

/- Right commands: line.Right. By the prover of this repo. -/
import Derived.Test.YtcpakoobgcdekaaDoorLineD
import Derived.Test.YtcpakoobgcdekaaDoorInts
import Derived.Laws.EntriesVeiled
namespace Go.Proofs.YtcpakoobgcdekaaDoor
open Go.RowKit

/-- A name where there is to be one; else none. -/
def nameOk (s : ByteArray) (is : Bool) : Bool := if is = true then nameF s.data.toList else decide (s = ByteArray.empty)
def rangeOk (op : Int) (n : Nat) : Bool := decide ((needF op).2.1 ≤ n ∧ n ≤ (needF op).2.2)
def posOk (l : List Int) : Bool := l.all fun x => decide (0 ≤ x)
/-- Whether a command is right. -/
def cmdR (op : Int) (nm ot : ByteArray) (l : List Int) : Bool :=
  decide (0 ≤ op ∧ op < 19) && (nameOk nm (decide (0 < (needF op).1)) && (nameOk ot (decide (1 < (needF op).1)) && (rangeOk op l.length && posOk l)))
abbrev cmdV (op : Int) (nm ot : ByteArray) (v : Value) : Value := .agg #[.int .i64 op, .string nm, .string ot, v]

theorem need_le (op : Int) : (needF op).1 ≤ 2 ∧ (needF op).2.1 ≤ 64 ∧ (needF op).2.2 ≤ 64 := by
  rcases op_cases op with h | h
  · rw [need_none h]; decide
  · rcases h with rfl | rfl | rfl | rfl | rfl | rfl | rfl | rfl | rfl | rfl | rfl | rfl | rfl | rfl | rfl | rfl | rfl <;> decide

set_option maxRecDepth 100000 in
theorem right1 (s : ByteArray) (is : Bool) (w : World) : Calls Tryd.prog 78 #[.string s, .bool is] w fun e w' => e = .returned (.bool (nameOk s is)) ∧ w = w' := by
  unfold nameOk
  cases is
  · rw [if_neg (by decide)]
    by_cases hs : s = ByteArray.empty
    · subst hs
      rw [decide_eq_true rfl]
      go_enter Tryd.func78, Tryd.ntmps78
      go_wp2_with fail
      go_ret
      exact ⟨rfl, rfl⟩
    · rw [decide_eq_false hs]
      have hs0 : 0 < s.size := by
        rcases Nat.eq_zero_or_pos s.size with h | h
        · exact absurd (str_ext (by rw [nil_of_size s (by omega)]; rfl)) hs
        · exact h
      have he := isEmpty_str hs0
      clear hs
      go_enter Tryd.func78, Tryd.ntmps78
      go_wp2_with fail
      go_ret
      exact ⟨rfl, rfl⟩
  · rw [if_pos rfl]
    have hN := fun W => line_name s W
    cases hq : nameF s.data.toList
    all_goals
      rw [hq] at hN
      replace hN := hide hN
      clear hq
      go_enter Tryd.func78, Tryd.ntmps78
      go_wp2_with (go_at_call 47; refine (hN.out _).mono ?_; rintro e w1 ⟨rfl, rfl⟩)
      go_ret
      exact ⟨rfl, rfl⟩
theorem right2 (x : Int) (w : World) : Calls Tryd.prog 80 #[.int .i64 x] w fun e w' => e = .returned (.bool (decide (x < 0))) ∧ w = w' := by
  go_enter Tryd.func80, Tryd.ntmps80
  go_wp2_with fail
  go_ret
  exact ⟨rfl, rfl⟩
theorem posOk_take {l : List Int} {k : Nat} (h : posOk (l.take k) = true) (hk : k < l.length) : posOk (l.take (k + 1)) = decide (0 ≤ l[k]) := by
  unfold posOk at h ⊢
  rw [List.take_succ_eq_append_getElem hk, List.all_append, h]
  simp
theorem posOk_bad {l : List Int} {k : Nat} (hk : k < l.length) (h : l[k] < 0) : posOk l = false := by
  unfold posOk
  rw [List.all_eq_false]
  exact ⟨l[k], List.getElem_mem hk, by simp; omega⟩
set_option maxRecDepth 100000 in
set_option maxHeartbeats 400000 in
theorem index_neg (v : Value) (l : List Int) (w : World) (hv : Its w v l) (hl : l.length ≤ 1000000000) :
    Calls Tryd.prog 91 #[v, .func (.func 80) #[] #[]] w fun e w' => (∃ r : Int, e = .returned (.int .i64 r) ∧ (decide (0 ≤ r) = !posOk l)) ∧ w = w' := by
  obtain ⟨A, c, rfl, _, _, _, hr⟩ := hv
  obtain ⟨n, hn⟩ : ∃ n, Hid (l.length = n) := ⟨_, rfl⟩
  have hbad := hide (fun (k : Nat) (hk : k < l.length) (h : l[k] < 0) => posOk_bad hk h)
  have hall : Hid (posOk (l.take n) = true → posOk l = true) := fun h => by rwa [List.take_of_length_le (by rw [hn.out]; exact Nat.le_refl _)] at h
  have hstep := hide (fun (k : Nat) (hk : k < l.length) (h : posOk (l.take k) = true) => posOk_take h hk)
  have h0 : Hid (posOk (l.take 0) = true) := rfl
  rw [hn.out] at hl ⊢
  have hrH := hide hr
  clear hr
  generalize posOk l = Q at *
  go_enter Tryd.func91, Tryd.ntmps91
  go_wp2_with fail
  go_loop [8] (fun x => ∃ k : Nat, k ≤ n ∧ x = .int .i64 k ∧ Hid (posOk (l.take k) = true)) (fun x => n - (intOf x).toNat)
  case atStart => exact ⟨0, Nat.zero_le _, rfl, h0⟩
  case round =>
    obtain ⟨k, hk, rfl, hp⟩ := hrel
    by_cases hlt : k < n
    · have hkl : k < l.length := by rw [hn.out]; exact hlt
      obtain ⟨b, off, rfl, hb, hc⟩ := it_at hrH.out hkl
      have g1 := hbad.out k hkl
      have g2 := hstep.out k hkl hp.out
      generalize l[k] = x at *
      have hR := fun W => right2 x W
      by_cases hx : x < 0
      · rw [decide_eq_true hx] at hR
        have hR := hide hR
        have hq := g1 hx
        have hq := hide hq
        clear g1 g2
        go_wp2_with (go_at_call 80; refine (hR.out _).mono ?_; rintro e w1 ⟨rfl, rfl⟩)
        go_ret
        exact ⟨⟨_, rfl, by rw [hq.out]; simp⟩, rfl⟩
      · rw [decide_eq_false hx] at hR
        have hR := hide hR
        have hp2 : Hid (posOk (l.take (k + 1)) = true) := by show _ = _; rw [g2]; simp; omega
        clear g1 g2
        go_wp2_with (go_at_call 80; refine (hR.out _).mono ?_; rintro e w1 ⟨rfl, rfl⟩)
        go_round
        case rel => exact ⟨k + 1, by omega, by go_num, hp2⟩
        case measure => simp [intOf]; omega
    · obtain rfl : k = n := by omega
      have hq := hide (hall.out hp.out)
      go_wp2_with fail
      go_ret
      exact ⟨⟨_, rfl, by rw [hq.out]; rfl⟩, rfl⟩
set_option maxRecDepth 100000 in
theorem contains_neg (v : Value) (l : List Int) (w : World) (hv : Its w v l) (hl : l.length ≤ 1000000000) :
    Calls Tryd.prog 79 #[v, .func (.func 80) #[] #[]] w fun e w' => e = .returned (.bool (!posOk l)) ∧ w = w' := by
  have h := hide (index_neg v l w hv hl)
  clear hv
  generalize posOk l = Q at *
  go_enter Tryd.func79, Tryd.ntmps79
  go_wp2_with (go_at_call 91; refine h.out.mono ?_; rintro e w1 ⟨⟨r, rfl, hq⟩, rfl⟩; have hq := hide hq)
  go_ret
  exact ⟨ret_congr (bool_congr (by rw [← hq.out])), rfl⟩
set_option maxRecDepth 100000 in
set_option maxHeartbeats 4000000 in
theorem line_right (op : Int) (nm ot : ByteArray) (l : List Int) (v : Value) (w : World) (hv : Its w v l) (hl : l.length ≤ 1000000000) :
    Calls Tryd.prog 51 #[cmdV op nm ot v] w fun e w' => e = .returned (.bool (cmdR op nm ot l)) ∧ Below w.heap.size w w' := by
  have hb0 := hide (balloc0 w (.cells #[.int .i64 op, .string nm, .string ot, v] 54))
  have hN := fun W => line_needs op W
  have hC := hide (fun (W : World) (h : Below w.heap.size w W) => contains_neg v l W (hv.kept h) hl)
  obtain ⟨A, c, rfl, _, _, _, _⟩ := hv
  have hR1 := hide right1
  obtain ⟨hn2, hlo2, hhi2⟩ := need_le op
  have hF : Hid (cmdR op nm ot l = (decide (0 ≤ op ∧ op < 19) && (nameOk nm (decide (0 < (needF op).1)) && (nameOk ot (decide (1 < (needF op).1)) && (rangeOk op l.length && posOk l))))) := rfl
  unfold rangeOk at hF
  generalize cmdR op nm ot l = R at *
  generalize posOk l = Q at *
  generalize l.length = len at *
  generalize (needF op).2.1 = lo at *
  generalize (needF op).2.2 = hi at *
  generalize (needF op).1 = n0 at *
  obtain ⟨i1, hi1⟩ : ∃ i1, Hid (decide (0 < n0) = i1) := ⟨_, rfl⟩
  obtain ⟨i2, hi2⟩ : ∃ i2, Hid (decide (1 < n0) = i2) := ⟨_, rfl⟩
  rw [hi1.out, hi2.out] at hF
  have hn : (n0 = 0 ∧ i1 = false ∧ i2 = false) ∨ (n0 = 1 ∧ i1 = true ∧ i2 = false) ∨ (n0 = 2 ∧ i1 = true ∧ i2 = true) := by
    rw [← hi1.out, ← hi2.out]
    have h : n0 = 0 ∨ n0 = 1 ∨ n0 = 2 := by omega
    rcases h with rfl | rfl | rfl <;> decide
  have k1 := fun W => hR1.out nm i1 W
  have k2 := fun W => hR1.out ot i2 W
  clear hi1 hi2 hR1
  by_cases hop : 0 ≤ op ∧ op < 19
  · rw [decide_eq_true hop, Bool.true_and] at hF
    obtain ⟨hop0, hop9⟩ := hop
    cases hb1 : nameOk nm i1
    · have hres : Hid (R = false) := by show _ = _; rw [hF.out, hb1, Bool.false_and]
      rw [hb1] at k1
      clear k2 hF hb1
      rcases hn with ⟨rfl, rfl, rfl⟩ | ⟨rfl, rfl, rfl⟩ | ⟨rfl, rfl, rfl⟩
      all_goals
        replace hN := hide hN
        replace k1 := hide k1
        go_enter Tryd.func51, Tryd.ntmps51
        go_wp2_with (first
          | (go_at_call 77; refine (hN.out _).mono ?_; rintro e w1 ⟨rfl, rfl⟩)
          | (go_at_call 78; refine (k1.out _).mono ?_; rintro e w1 ⟨rfl, rfl⟩))
        go_ret
        exact ⟨by rw [hres.out]; rfl, hb0.out⟩
    · rw [hb1, Bool.true_and] at hF
      rw [hb1] at k1
      clear hb1
      cases hb2 : nameOk ot i2
      · have hres : Hid (R = false) := by show _ = _; rw [hF.out, hb2, Bool.false_and]
        rw [hb2] at k2
        clear hF hb2
        rcases hn with ⟨rfl, rfl, rfl⟩ | ⟨rfl, rfl, rfl⟩ | ⟨rfl, rfl, rfl⟩
        all_goals
          replace hN := hide hN
          replace k1 := hide k1
          replace k2 := hide k2
          go_enter Tryd.func51, Tryd.ntmps51
          go_wp2_with (first
            | (go_at_call 77; refine (hN.out _).mono ?_; rintro e w1 ⟨rfl, rfl⟩)
            | (go_at_call 78; refine (k1.out _).mono ?_; clear k1; rintro e w1 ⟨rfl, rfl⟩)
            | (go_at_call 78; refine (k2.out _).mono ?_; rintro e w1 ⟨rfl, rfl⟩))
          go_ret
          exact ⟨by rw [hres.out]; rfl, hb0.out⟩
      · rw [hb2, Bool.true_and] at hF
        rw [hb2] at k2
        clear hb2
        by_cases hlo : lo ≤ len
        · by_cases hhi : len ≤ hi
          · have hres : Hid (R = Q) := by show _ = _; rw [hF.out, decide_eq_true ⟨hlo, hhi⟩, Bool.true_and]
            have hlo' : ((len : Int) < (lo : Int)) = False := eq_false (by omega)
            have hhi' : ((hi : Int) < (len : Int)) = False := eq_false (by omega)
            clear hF
            rcases hn with ⟨rfl, rfl, rfl⟩ | ⟨rfl, rfl, rfl⟩ | ⟨rfl, rfl, rfl⟩
            all_goals
              replace hN := hide hN
              replace k1 := hide k1
              replace k2 := hide k2
              go_enter Tryd.func51, Tryd.ntmps51
              go_wp2_with (first
                | (go_at_call 77; refine (hN.out _).mono ?_; rintro e w1 ⟨rfl, rfl⟩)
                | (go_at_call 78; refine (k1.out _).mono ?_; clear k1; rintro e w1 ⟨rfl, rfl⟩)
                | (go_at_call 78; refine (k2.out _).mono ?_; rintro e w1 ⟨rfl, rfl⟩)
                | (go_at_call 79; refine (hC.out _ hb0.out).mono ?_; rintro e w1 ⟨rfl, rfl⟩))
              go_ret
              exact ⟨by rw [hres.out]; cases Q <;> rfl, hb0.out⟩
          · have hres : Hid (R = false) := by show _ = _; rw [hF.out, decide_eq_false (fun h => hhi h.2), Bool.false_and]
            have hlo' : ((len : Int) < (lo : Int)) = False := eq_false (by omega)
            have hhi' : ((hi : Int) < (len : Int)) = True := eq_true (by omega)
            clear hF hC
            rcases hn with ⟨rfl, rfl, rfl⟩ | ⟨rfl, rfl, rfl⟩ | ⟨rfl, rfl, rfl⟩
            all_goals
              replace hN := hide hN
              replace k1 := hide k1
              replace k2 := hide k2
              go_enter Tryd.func51, Tryd.ntmps51
              go_wp2_with (first
                | (go_at_call 77; refine (hN.out _).mono ?_; rintro e w1 ⟨rfl, rfl⟩)
                | (go_at_call 78; refine (k1.out _).mono ?_; clear k1; rintro e w1 ⟨rfl, rfl⟩)
                | (go_at_call 78; refine (k2.out _).mono ?_; rintro e w1 ⟨rfl, rfl⟩))
              go_ret
              exact ⟨by rw [hres.out]; rfl, hb0.out⟩
        · have hres : Hid (R = false) := by show _ = _; rw [hF.out, decide_eq_false (fun h => hlo h.1), Bool.false_and]
          have hlo' : ((len : Int) < (lo : Int)) = True := eq_true (by omega)
          clear hF hC
          rcases hn with ⟨rfl, rfl, rfl⟩ | ⟨rfl, rfl, rfl⟩ | ⟨rfl, rfl, rfl⟩
          all_goals
            replace hN := hide hN
            replace k1 := hide k1
            replace k2 := hide k2
            go_enter Tryd.func51, Tryd.ntmps51
            go_wp2_with (first
              | (go_at_call 77; refine (hN.out _).mono ?_; rintro e w1 ⟨rfl, rfl⟩)
              | (go_at_call 78; refine (k1.out _).mono ?_; clear k1; rintro e w1 ⟨rfl, rfl⟩)
              | (go_at_call 78; refine (k2.out _).mono ?_; rintro e w1 ⟨rfl, rfl⟩))
            go_ret
            exact ⟨by rw [hres.out]; rfl, hb0.out⟩
  · have hres : Hid (R = false) := by show _ = _; rw [hF.out, decide_eq_false hop, Bool.false_and]
    replace hN := hide hN
    clear k1 k2 hF hn
    by_cases hop0 : op < 0
    · clear hop
      go_enter Tryd.func51, Tryd.ntmps51
      go_wp2_with (go_at_call 77; refine (hN.out _).mono ?_; rintro e w1 ⟨rfl, rfl⟩)
      go_ret
      exact ⟨by rw [hres.out]; rfl, hb0.out⟩
    · have hop9 : 19 ≤ op := by omega
      clear hop
      go_enter Tryd.func51, Tryd.ntmps51
      go_wp2_with (go_at_call 77; refine (hN.out _).mono ?_; rintro e w1 ⟨rfl, rfl⟩)
      go_ret
      exact ⟨by rw [hres.out]; rfl, hb0.out⟩
end Go.Proofs.YtcpakoobgcdekaaDoor

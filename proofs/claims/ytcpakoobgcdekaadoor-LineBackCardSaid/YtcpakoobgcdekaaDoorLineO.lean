/- The program's Same; the law LineRemarks. By the prover of this repo. -/
import Derived.Test.YtcpakoobgcdekaaDoorLineN
namespace Go.Proofs.YtcpakoobgcdekaaDoor
open Go.RowKit

set_option maxRecDepth 100000 in
set_option maxHeartbeats 1000000 in
theorem equal_ints (l m : List Int) (v u : Value) (w : World) (hv : Its w v l) (hu : Its w u m) :
    Calls Tryd.prog 71 #[v, u] w fun e w' => e = .returned (.bool (decide (l = m))) ∧ Below w.heap.size w w' := by
  obtain ⟨A, c, rfl, _, hc1, hc2, hr⟩ := hv
  obtain ⟨B, d, rfl, _, hd1, hd2, hs⟩ := hu
  unfold maxLen at hc2 hd2
  by_cases hlm : l.length = m.length
  · obtain ⟨n, hn⟩ : ∃ n, Hid (l.length = n) := ⟨_, rfl⟩
    rw [hn.out] at hc1
    have hrn : Hid (Rd w A l.length 1 (ic l)) := hr
    have hsn : Hid (Rd w B m.length 1 (ic m)) := hs
    have hmn : Hid (m.length = n) := by show _ = _; rw [← hlm, hn.out]
    have h0 : Hid (decide (l = m) = decide (l.drop 0 = m.drop 0)) := rfl
    generalize decide (l = m) = G at *
    rw [hn.out, hmn.out]
    clear hr hs hlm hd1
    go_enter Tryd.func71, Tryd.ntmps71
    go_wp2_with fail
    go_loopw [13] (fun k wr => ∃ (i : Nat), i ≤ n ∧ k = .int .i64 i ∧ Hid (G = decide (l.drop i = m.drop i)) ∧ Below w.heap.size w wr) (fun k _ => n - (intOf k).toNat)
    case atStart => exact ⟨0, by omega, rfl, h0.out, Below.refl _ _⟩
    case round =>
      obtain ⟨i, hi, rfl, hgo, hbel⟩ := hrel
      by_cases hlt : i < n
      · have hil : i < l.length := by rw [hn.out]; exact hlt
        have him : i < m.length := by rw [hmn.out]; exact hlt
        obtain ⟨b, off, rfl, hb, c0⟩ := it_at (hrn.out.of_below (Nat.le_refl _) hbel) hil
        obtain ⟨b', off', rfl, hb', d0⟩ := it_at (hsn.out.of_below (Nat.le_refl _) hbel) him
        rw [List.drop_eq_getElem_cons hil, List.drop_eq_getElem_cons him] at hgo
        generalize l[i] = x at *
        generalize m[i] = y at *
        by_cases hx : x = y
        · subst hx
          have hgo2 : Hid (G = decide (l.drop (i + 1) = m.drop (i + 1))) := by show _ = _; rw [hgo.out]; simp
          go_wp2_with fail
          go_quiet (fail)
          go_wp2_with fail
          go_roundw
          case rel => exact ⟨i + 1, by omega, by go_num, hgo2, below_drewN hbel _⟩
          case measure => simp [intOf] <;> omega
        · have hres : Hid (false = G) := by show _ = _; rw [hgo.out]; symm; rw [decide_eq_false_iff_not]; intro k; apply hx; injection k
          have hne : (x == y) = false := by simpa using hx
          clear hx
          go_wp2_with fail
          go_quiet (fail)
          go_wp2_with fail
          go_ret
          exact ⟨by rw [← hres.out]; rfl, below_drewN hbel _⟩
      · have hres : Hid (true = G) := by
          show _ = _
          rw [hgo.out, List.drop_of_length_le (by rw [hn.out]; omega), List.drop_of_length_le (by rw [hmn.out]; omega)]
          simp
        go_wp2_with fail
        go_ret
        exact ⟨by rw [← hres.out]; rfl, hbel⟩
  · rw [decide_eq_false (fun k => hlm (by rw [k]))]
    have hb : ((l.length : Int) == (m.length : Int)) = false := by rw [beq_eq_false_iff_ne]; omega
    have hb2 : ((l.length : Int) != (m.length : Int)) = true := by rw [bne, hb]; rfl
    clear hlm hr hs
    go_enter Tryd.func71, Tryd.ntmps71
    go_wp2_with fail
    go_ret
    exact ⟨rfl, Below.refl _ _⟩
/-- Are two commands alike? -/
def sameF (a b : Cmd) : Bool := decide (a = b)
set_option maxRecDepth 100000 in
set_option maxHeartbeats 1000000 in
theorem line_same (a b : Cmd) (v u : Value) (w : World) (hv : Its w v a.2.2.2) (hu : Its w u b.2.2.2) :
    Calls Tryd.prog 43 #[cmdV a.1 a.2.1 a.2.2.1 v, cmdV b.1 b.2.1 b.2.2.1 u] w fun e w' => e = .returned (.bool (sameF a b)) ∧ Below w.heap.size w w' := by
  obtain ⟨o, x, y, l⟩ := a
  obtain ⟨o', x', y', m⟩ := b
  simp only [] at hv hu ⊢
  have hE := hide (fun (W : World) (h : Below w.heap.size w W) => equal_ints l m v u W (hv.kept h) (hu.kept h))
  obtain ⟨A, c, rfl, _⟩ := hv
  obtain ⟨B, d, rfl, _⟩ := hu
  have hb0 := hide (balloc (balloc0 w (.cells #[.int .i64 o, .string x, .string y, .slice A l.length c] 54)) (.cells #[.int .i64 o', .string x', .string y', .slice B m.length d] 54))
  have hF : sameF (o, x, y, l) (o', x', y', m) = (decide (o = o') && (decide (x = x') && (decide (y = y') && decide (l = m)))) := by
    unfold sameF
    rw [Bool.eq_iff_iff]
    simp
  rw [hF]
  generalize decide (l = m) = Q at *
  by_cases h1 : o = o'
  · subst h1
    rw [decide_eq_true rfl, Bool.true_and]
    by_cases h2 : x = x'
    · subst h2
      rw [decide_eq_true rfl, Bool.true_and]
      by_cases h3 : y = y'
      · subst h3
        rw [decide_eq_true rfl, Bool.true_and]
        clear hF
        go_enter Tryd.func43, Tryd.ntmps43
        go_wp2_with (go_at_call 71; refine (hE.out _ hb0.out).mono ?_; rintro e w3 ⟨rfl, hb3⟩; have hb3 := hide hb3)
        go_ret
        exact ⟨rfl, bthen hb0.out hb3.out⟩
      · rw [decide_eq_false h3, Bool.false_and]
        have hne := str_ne h3
        clear hF h3
        go_enter Tryd.func43, Tryd.ntmps43
        go_wp2_with fail
        go_ret
        exact ⟨rfl, hb0.out⟩
    · rw [decide_eq_false h2, Bool.false_and]
      have hne := str_ne h2
      clear hF h2
      go_enter Tryd.func43, Tryd.ntmps43
      go_wp2_with fail
      go_ret
      exact ⟨rfl, hb0.out⟩
  · rw [decide_eq_false h1, Bool.false_and]
    have hne : (o == o') = false := by simpa using h1
    clear hF h1
    go_enter Tryd.func43, Tryd.ntmps43
    go_wp2_with fail
    go_ret
    exact ⟨rfl, hb0.out⟩
theorem hash_list (s : ByteArray) : ((⟨#[35]⟩ : ByteArray) ++ s).data.toList = 35 :: s.data.toList := by simp [ByteArray.data_append]
theorem parse_hash (s : ByteArray) : parseF ((⟨#[35]⟩ : ByteArray) ++ s) = if 4096 ≤ s.size then (cmd0, 21) else (cmd0, 0) := by
  unfold parseF
  have hz : ((⟨#[35]⟩ : ByteArray) ++ s).size = s.size + 1 := by rw [ByteArray.size_append]; show 1 + s.size = _; omega
  rw [hz, hash_list]
  by_cases h : 4096 ≤ s.size
  · rw [if_pos (by omega), if_pos h]
  · rw [if_neg (by omega), if_neg h, if_pos (.inr rfl)]
set_option maxRecDepth 100000 in
set_option maxHeartbeats 1000000 in
theorem lineRemarks_walk (s : ByteArray) (w : World) (hW : Wz w) (_hmax : s.size ≤ maxLen) :
    Calls Tryd.prog 8 #[.string s] w fun e w' => e = .returned (.bool true) ∧ Below w.heap.size w w' := by
  by_cases h5 : s.size ≤ 10000
  · have hcat : (⟨#[35]⟩ : ByteArray).size + s.size ≤ 9223372036854775807 := by show 1 + s.size ≤ _; omega
    have h1 := line_parse ((⟨#[35]⟩ : ByteArray) ++ s) w hW (by rw [ByteArray.size_append]; show 1 + s.size ≤ _; omega)
    rw [parse_hash] at h1
    have hal := hide (fun (W : World) (h : Below w.heap.size w W) => alive35 W (hW.of_below (Nat.le_refl _) h))
    clear hW
    by_cases h4 : 4096 ≤ s.size
    case' pos => rw [if_pos h4] at h1
    case' neg => rw [if_neg h4] at h1
    all_goals
      replace h1 := hide h1
      go_enter Tryd.func8, Tryd.ntmps8
      go_wp2_with fail
      refine h1.out.mono ?_
      rintro e w1 ⟨⟨o, x, y, v, rfl, rfl, rfl, rfl, hI⟩, hb1⟩
      obtain ⟨A, c, rfl, i1, i2, i3, hr⟩ := hI
      have hI := show Its w1 (.slice A 0 c) [] from ⟨A, c, rfl, i1, i2, i3, hr⟩
      have hB1 : Blk (w1.alloc (.cells #[.int .i64 0, .string ⟨#[]⟩, .string ⟨#[]⟩, .slice A 0 c] 54)) w1.heap.size 54 #[.int .i64 0, .string ⟨#[]⟩, .string ⟨#[]⟩, .slice A 0 c] := Blk.made _ _ _
      have k1 := hide (balloc hb1 (.cells #[.int .i64 0, .string ⟨#[]⟩, .string ⟨#[]⟩, .slice A 0 c] 54))
      have hS := hide (line_same cmd0 cmd0 (.slice A 0 c) (.slice none 0 0) (w1.alloc (.cells #[.int .i64 0, .string ⟨#[]⟩, .string ⟨#[]⟩, .slice A 0 c] 54)) (hI.kept (balloc0 _ _)) (Its.nil _))
      rw [show sameF cmd0 cmd0 = true by decide] at hS
      clear hb1 hI i1 i2 i3 hr h1
      simp only [cmd0, List.length_nil]
      go_wp2_with (first
        | (go_at_call 43; refine hS.out.mono ?_; rintro e w2 ⟨rfl, hb2⟩; have k2 := hide (bthen k1.out hb2); clear hb2)
        | (go_at_call 38; refine (hal.out _ k2.out).mono ?_; rintro e w3 ⟨rfl, hb3⟩; have k3 := hide (bthen k2.out hb3); clear hb3))
      go_ret
      exact ⟨rfl, k3.out⟩
  · have hal := hide (alive35 w hW)
    have h5' : (10000 : Int) < s.size := by omega
    clear hW
    go_enter Tryd.func8, Tryd.ntmps8
    go_wp2_with fail
    refine hal.out.mono ?_
    rintro e w1 ⟨rfl, hb1⟩
    go_wp2_with fail
    go_ret
    exact ⟨rfl, hb1⟩
end Go.Proofs.YtcpakoobgcdekaaDoor

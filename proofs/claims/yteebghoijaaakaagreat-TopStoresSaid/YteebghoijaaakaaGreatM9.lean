/- Part 9 of the proof: texts joined by this repo's tools/merge2.py (RollW RollV RollX RollY RollS RollT RollU RollF). By the prover of this repo. -/
import Derived.Test.YteebghoijaaakaaGreatM3
import Derived.Test.YteebghoijaaakaaGreatM8
import Derived.Test.YteebghoijaaakaaGreatM7
import Derived.Laws.StructEq
import Derived.Deep.RegionHeldLaw
import Derived.Deep.AppendLies
import Derived.Deep.RegionWith
import Derived.StillTailTactics
set_option linter.unusedVariables false
set_option linter.unusedSimpArgs false
/- The walks of layer 6: lists of nodes as slices; their sum, whether they are a roll, a node's weight, whether two are the same. By the prover of this repo. -/
namespace Go.Proofs.YteebghoijaaakaaGreat
open Go.RowKit
open TwigM RollM

abbrev nv (p : Nd) : Value := .agg #[.int .i64 p.1, .int .i64 p.2]
/-- The cells of a list of nodes. -/
def ndc (l : List Nd) (j : Nat) : Value := .int .i64 (if j % 2 = 0 then (l.getD (j / 2) (0, 0)).1 else (l.getD (j / 2) (0, 0)).2)
def ndv (l : List Nd) : List Value := l.flatMap fun p => [.int .i64 p.1, .int .i64 p.2]
/-- Both parts of each in their type's bounds. -/
def NdWf (l : List Nd) : Prop := ∀ p ∈ l, -9223372036854775808 ≤ p.1 ∧ p.1 ≤ 9223372036854775807 ∧ -9223372036854775808 ≤ p.2 ∧ p.2 ≤ 9223372036854775807

/-- A slice value reads as a list of nodes. -/
def Nds (w : World) (v : Value) (l : List Nd) : Prop := ∃ A c, v = .slice A l.length c ∧ (A = none → l.length = 0) ∧ l.length ≤ c ∧ c ≤ maxLen ∧ Rd w A l.length 2 (ndc l)
section
variable {w w' : World} {v : Value} {l : List Nd}
theorem Nds.kept (h : Nds w v l) (hb : Below w.heap.size w w') : Nds w' v l := by
  obtain ⟨A, c, h1, h2, h3, h4, h5⟩ := h
  exact ⟨A, c, h1, h2, h3, h4, h5.kept hb⟩
theorem Nds.nil (w : World) : Nds w (.slice none 0 0) [] := ⟨none, 0, rfl, fun _ => rfl, Nat.le_refl _, by unfold maxLen; omega, Rd.zero _ _ _ _⟩
end
/-- The cells of element k. -/
theorem rd_at {w : World} {A : Option Addr} {l : List Nd} (h : Rd w A l.length 2 (ndc l)) {k : Nat} (hk : k < l.length) :
    ∃ b off, A = some ⟨b, off, none⟩ ∧ b < w.heap.size ∧ w.cell? ⟨b, off + k * 2, none⟩ = some (.int .i64 l[k].1) ∧ w.cell? ⟨b, off + k * 2 + 1, none⟩ = some (.int .i64 l[k].2) := by
  obtain ⟨b, off, e, hb, hc⟩ := h (by omega)
  refine ⟨b, off, e, hb, ?_, ?_⟩
  · have := hc (k * 2) (by omega)
    rw [this]
    simp [ndc, hk]
  · have := hc (k * 2 + 1) (by omega)
    rw [Nat.add_assoc, this]
    have h1 : (k * 2 + 1) % 2 = 1 := by omega
    have h2 : (k * 2 + 1) / 2 = k := by omega
    simp [ndc, h1, h2, hk]

theorem tot_nil (n : Int) : totGo n [] = (n, true) := rfl
theorem tot_bad {n : Int} {p : Nd} {l : List Nd} (h : p.2 < 0 ∨ 72057594037927935 - n < p.2) : totGo n (p :: l) = (0, false) := if_pos h
theorem tot_on {n : Int} {p : Nd} {l : List Nd} (h : ¬ (p.2 < 0 ∨ 72057594037927935 - n < p.2)) : totGo n (p :: l) = totGo (n + p.2) l := if_neg h

theorem reckon_counts (a b : Int) (w : World) : Calls Tryz.prog 170 #[.int .i64 a, .int .i64 b] w fun e w' => e = .returned (.bool (decide (0 ≤ a ∧ 0 ≤ b))) ∧ w = w' := by
  by_cases h : 0 ≤ a
  · by_cases h2 : 0 ≤ b
    · rw [decide_eq_true ⟨h, h2⟩]
      go_enter Tryz.func170, Tryz.ntmps170
      go_wp2_with fail
      go_ret
      exact ⟨rfl, rfl⟩
    · rw [decide_eq_false (fun k => h2 k.2)]
      go_enter Tryz.func170, Tryz.ntmps170
      go_wp2_with fail
      go_ret
      exact ⟨rfl, rfl⟩
  · rw [decide_eq_false (fun k => h k.1)]
    go_enter Tryz.func170, Tryz.ntmps170
    go_wp2_with fail
    go_ret
    exact ⟨rfl, rfl⟩
def addF (a b : Int) : Int × Bool := if 0 ≤ a ∧ 0 ≤ b ∧ a ≤ 9223372036854775807 - b then (a + b, true) else (0, false)
theorem reckon_add (a b : Int) (w : World) (ha : a ≤ 9223372036854775807) (hb : b ≤ 9223372036854775807) : Calls Tryz.prog 129 #[.int .i64 a, .int .i64 b] w fun e w' => e = .returned (nb (addF a b)) ∧ w = w' := by
  have hc := fun W => reckon_counts a b W
  unfold addF
  by_cases h : 0 ≤ a ∧ 0 ≤ b
  · rw [decide_eq_true h] at hc
    replace hc := hide hc
    obtain ⟨h0, h1⟩ := h
    by_cases h2 : a ≤ 9223372036854775807 - b
    · rw [if_pos ⟨h0, h1, h2⟩]
      go_enter Tryz.func129, Tryz.ntmps129
      go_wp2_with (go_at_call 170; refine (hc.out _).mono ?_; rintro e w1 ⟨rfl, rfl⟩)
      go_ret2
      exact ⟨rfl, rfl⟩
    · rw [if_neg (fun k => h2 k.2.2)]
      go_enter Tryz.func129, Tryz.ntmps129
      go_wp2_with (go_at_call 170; refine (hc.out _).mono ?_; rintro e w1 ⟨rfl, rfl⟩)
      go_ret2
      exact ⟨rfl, rfl⟩
  · rw [decide_eq_false h] at hc
    replace hc := hide hc
    rw [if_neg (fun k => h ⟨k.1, k.2.1⟩)]
    clear h
    go_enter Tryz.func129, Tryz.ntmps129
    go_wp2_with (go_at_call 170; refine (hc.out _).mono ?_; rintro e w1 ⟨rfl, rfl⟩)
    go_ret2
    exact ⟨rfl, rfl⟩

set_option maxRecDepth 100000 in
theorem roll_total (A : Option Addr) (c : Nat) (l : List Nd) (w : World) (hr : Rd w A l.length 2 (ndc l)) (hl : l.length ≤ 1000000) (hwf : NdWf l) :
    Calls Tryz.prog 145 #[.slice A l.length c] w fun e w' => e = .returned (nb (totF l)) ∧ Below w.heap.size w w' := by
  unfold totF
  generalize hG : totGo 0 l = G
  replace hG := hide hG
  obtain ⟨n, hn⟩ : ∃ n, Hid (l.length = n) := ⟨_, rfl⟩
  rw [hn.out] at hl
  have hrn : Hid (Rd w A l.length 2 (ndc l)) := hr
  rw [hn.out]
  clear hr
  go_enter Tryz.func145, Tryz.ntmps145
  go_wp2_with fail
  go_loopw [4, 11] (fun s k wr => ∃ (t : Int) (i : Nat), i ≤ n ∧ 0 ≤ t ∧ t ≤ 72057594037927935 ∧ s = .int .i64 t ∧ k = .int .i64 i ∧ Hid (totGo t (l.drop i) = G) ∧ Below w.heap.size w wr) (fun _ k _ => n - (intOf k).toNat)
  case atStart => exact ⟨0, 0, by omega, by omega, by omega, rfl, rfl, by show _ = _; rw [List.drop_zero, hG.out], Below.refl _ _⟩
  case round =>
    obtain ⟨t, i, hi, ht0, ht1, rfl, rfl, hgo, hbel⟩ := hrel
    by_cases hlt : i < n
    · have hil : i < l.length := by rw [hn.out]; exact hlt
      obtain ⟨b, off, rfl, hb, c0, c1⟩ := rd_at (hrn.out.of_below (Nat.le_refl _) hbel) hil
      have hw := hwf l[i] (List.getElem_mem hil)
      rw [List.drop_eq_getElem_cons hil] at hgo
      generalize l[i] = p at *
      obtain ⟨x, y⟩ := p
      simp only at c0 c1 hw
      obtain ⟨_, _, hy0, hy1⟩ := hw
      have hA := fun W => reckon_add t y W (by omega) hy1
      by_cases hbad : y < 0 ∨ 72057594037927935 - t < y
      · have hres : Hid ((0, false) = G) := by rw [← hgo.out, tot_bad hbad]; rfl
        by_cases hy : 0 ≤ y
        · have hF : addF t y = (t + y, true) ∨ addF t y = (0, false) := by
            unfold addF; by_cases h : 0 ≤ t ∧ 0 ≤ y ∧ t ≤ 9223372036854775807 - y
            · exact .inl (if_pos h)
            · exact .inr (if_neg h)
          have hbig : 72057594037927935 < t + y := by omega
          rcases hF with hF | hF
          all_goals
            rw [hF] at hA
            replace hA := hide hA
            clear hF hbad
            go_wp2_with (go_at_call 129; refine (hA.out _).mono ?_; rintro e w1 ⟨rfl, rfl⟩)
            go_ret2
            exact ⟨by rw [← hres.out]; rfl, balloc hbel _⟩
        · have hF : addF t y = (0, false) := if_neg (fun k => hy k.2.1)
          rw [hF] at hA
          replace hA := hide hA
          clear hF hbad
          go_wp2_with (go_at_call 129; refine (hA.out _).mono ?_; rintro e w1 ⟨rfl, rfl⟩)
          go_ret2
          exact ⟨by rw [← hres.out]; rfl, balloc hbel _⟩
      · have hgo2 : Hid (totGo (t + y) (l.drop (i + 1)) = G) := by rw [← hgo.out, tot_on hbad]; rfl
        have hF : addF t y = (t + y, true) := if_pos (by omega)
        rw [hF] at hA
        replace hA := hide hA
        have hle : t + y ≤ 72057594037927935 := by omega
        have hge : 0 ≤ t + y := by omega
        clear hF hbad
        go_wp2_with (go_at_call 129; refine (hA.out _).mono ?_; rintro e w1 ⟨rfl, rfl⟩)
        go_roundw
        case rel => exact ⟨t + y, i + 1, by omega, hge, hle, rfl, by go_num, hgo2, balloc hbel _⟩
        case measure => simp [intOf]; omega
    · have hres : Hid ((t, true) = G) := by rw [← hgo.out, List.drop_of_length_le (by rw [hn.out]; omega)]; rfl
      go_wp2_with fail
      go_ret2
      exact ⟨by rw [← hres.out]; rfl, hbel⟩
end Go.Proofs.YteebghoijaaakaaGreat
/- The walks of layer 6, on: the reference's sum, whether a list is a roll, a node's weight, whether two are the same. By the prover of this repo. -/
namespace Go.Proofs.YteebghoijaaakaaGreat
open Go.RowKit
open TwigM RollM

theorem right_nil (L last : Int) : rightGo L last [] = true := rfl
theorem right_bad {L last : Int} {p : Nd} {l : List Nd} (h : p.1 ≤ last ∨ rightB L p.1 = false ∨ p.2 < 1) : rightGo L last (p :: l) = false := if_pos h
theorem right_on {L last : Int} {p : Nd} {l : List Nd} (h : ¬ (p.1 ≤ last ∨ rightB L p.1 = false ∨ p.2 < 1)) : rightGo L last (p :: l) = rightGo L p.1 l := if_neg h
theorem uni_right (L : Int) : rightB L 1 = uniB L := by
  unfold rightB uniB
  congr 1
  have := pw_pos L
  simp
  intro h1 h2
  omega

set_option maxRecDepth 100000 in
set_option maxHeartbeats 1000000 in
theorem roll_right (L : Int) (A : Option Addr) (c : Nat) (l : List Nd) (w : World) (hr : Rd w A l.length 2 (ndc l)) (hl : l.length ≤ 1000000) (hwf : NdWf l) :
    Calls Tryz.prog 100 #[.int .i64 L, .slice A l.length c] w fun e w' => e = .returned (.bool (rollB L l)) ∧ Below w.heap.size w w' := by
  unfold rollB
  generalize hG : rightGo L 0 l = G
  replace hG := hide hG
  have hT := fun (W : World) (h : Rd W A l.length 2 (ndc l)) => roll_total A c l W h hl hwf
  have hU := fun W => right_c L 1 W
  rw [uni_right] at hU
  generalize totF l = tt at hT ⊢
  obtain ⟨tn, tb⟩ := tt
  generalize uniB L = U at hU ⊢
  replace hU := hide hU
  obtain ⟨n, hn⟩ : ∃ n, Hid (l.length = n) := ⟨_, rfl⟩
  rw [hn.out] at hl
  have hrn : Hid (Rd w A l.length 2 (ndc l)) := hr
  rw [hn.out] at hT ⊢
  replace hT := hide hT
  have hrT : Hid (Rd w A n 2 (ndc l)) := by have := hr; rwa [hn.out] at this
  clear hr
  go_enter Tryz.func100, Tryz.ntmps100
  go_wp2_with fail
  go_loopw [5, 12] (fun s k wr => ∃ (last : Int) (i : Nat), i ≤ n ∧ s = .int .i64 last ∧ k = .int .i64 i ∧ Hid (rightGo L last (l.drop i) = G) ∧ Below w.heap.size w wr) (fun _ k _ => n - (intOf k).toNat)
  case atStart => exact ⟨0, 0, by omega, rfl, rfl, by show _ = _; rw [List.drop_zero, hG.out], Below.refl _ _⟩
  case round =>
    obtain ⟨last, i, hi, rfl, rfl, hgo, hbel⟩ := hrel
    by_cases hlt : i < n
    · have hdum := trivial
      have hil : i < l.length := by rw [hn.out]; exact hlt
      obtain ⟨b, off, rfl, hb, c0, c1⟩ := rd_at (hrn.out.of_below (Nat.le_refl _) hbel) hil
      have hw := hwf l[i] (List.getElem_mem hil)
      rw [List.drop_eq_getElem_cons hil] at hgo
      generalize l[i] = p at *
      obtain ⟨x, y⟩ := p
      simp only at c0 c1 hw
      obtain ⟨hx0, hx1, hy0, hy1⟩ := hw
      have hR := fun W => right_c L x W
      by_cases hxl : x ≤ last
      · have hres : Hid (false = G) := by rw [← hgo.out, right_bad (.inl hxl)]; rfl
        replace hR := hide hR
        go_wp2_with fail
        go_ret
        exact ⟨by rw [← hres.out]; rfl, balloc hbel _⟩
      · cases hrb : rightB L x
        · have hres : Hid (false = G) := by rw [← hgo.out, right_bad (.inr (.inl hrb))]; rfl
          rw [hrb] at hR
          replace hR := hide hR
          clear hrb
          go_wp2_with (go_at_call 88; refine (hR.out _).mono ?_; rintro e w1 ⟨rfl, rfl⟩)
          go_ret
          exact ⟨by rw [← hres.out]; rfl, balloc hbel _⟩
        · rw [hrb] at hR
          replace hR := hide hR
          by_cases hy : y < 1
          · have hres : Hid (false = G) := by rw [← hgo.out, right_bad (.inr (.inr hy))]; rfl
            clear hrb
            go_wp2_with (go_at_call 88; refine (hR.out _).mono ?_; rintro e w1 ⟨rfl, rfl⟩)
            go_ret
            exact ⟨by rw [← hres.out]; rfl, balloc hbel _⟩
          · have hgo2 : Hid (rightGo L x (l.drop (i + 1)) = G) := by rw [← hgo.out, right_on (not_or.2 ⟨hxl, not_or.2 ⟨by rw [hrb]; simp, hy⟩⟩)]; rfl
            clear hrb
            go_wp2_with (go_at_call 88; refine (hR.out _).mono ?_; rintro e w1 ⟨rfl, rfl⟩)
            go_roundw
            case rel => exact ⟨x, i + 1, by omega, rfl, by go_num, hgo2, balloc hbel _⟩
            case measure => simp [intOf]; omega
    · have hres : Hid (true = G) := by rw [← hgo.out, List.drop_of_length_le (by rw [hn.out]; omega)]; rfl
      go_wp2_with fail
      refine (hT.out _ (hrT.out.of_below (Nat.le_refl _) hbel)).mono ?_
      rintro e w1 ⟨rfl, hb1⟩
      cases tb
      · go_wp2_with fail
        go_ret
        exact ⟨by rw [← hres.out]; rfl, bthen hbel hb1⟩
      · go_wp2_with fail
        refine (hU.out _).mono ?_
        rintro e w2 ⟨rfl, rfl⟩
        go_wp2_with fail
        go_ret
        exact ⟨by rw [← hres.out]; simp, bthen hbel hb1⟩

theorem find_at {id : Int} {p : Nd} {l : List Nd} (h : p.1 = id) : findF id (p :: l) = p.2 := if_pos h
theorem find_on {id : Int} {p : Nd} {l : List Nd} (h : ¬ p.1 = id) : findF id (p :: l) = findF id l := if_neg h
end Go.Proofs.YteebghoijaaakaaGreat
/- The walks of layer 6, on: whether two lists are the same, the reference's roll, a node's weight. By the prover of this repo. -/
namespace Go.Proofs.YteebghoijaaakaaGreat
open Go.RowKit
open TwigM RollM

set_option maxRecDepth 100000 in
set_option maxHeartbeats 1000000 in
theorem eql_c (A B : Option Addr) (c d : Nat) (l m : List Nd) (w : World) (hr : Rd w A l.length 2 (ndc l)) (hs : Rd w B m.length 2 (ndc m)) (hl : l.length ≤ 1000000) (hm : m.length ≤ 1000000) :
    Calls Tryz.prog 165 #[.slice A l.length c, .slice B m.length d] w fun e w' => e = .returned (.bool (decide (l = m))) ∧ Below w.heap.size w w' := by
  by_cases hlm : l.length = m.length
  · obtain ⟨n, hn⟩ : ∃ n, Hid (l.length = n) := ⟨_, rfl⟩
    rw [hn.out] at hl
    have hrn : Hid (Rd w A l.length 2 (ndc l)) := hr
    have hsn : Hid (Rd w B m.length 2 (ndc m)) := hs
    have hmn : Hid (m.length = n) := by show _ = _; rw [← hlm, hn.out]
    have h0 : Hid (decide (l = m) = decide (l.drop 0 = m.drop 0)) := rfl
    generalize decide (l = m) = G at *
    rw [hn.out, hmn.out]
    clear hr hs hlm hm
    go_enter Tryz.func165, Tryz.ntmps165
    go_wp2_with fail
    go_loopw [13] (fun k wr => ∃ (i : Nat), i ≤ n ∧ k = .int .i64 i ∧ Hid (G = decide (l.drop i = m.drop i)) ∧ Below w.heap.size w wr) (fun k _ => n - (intOf k).toNat)
    case atStart => exact ⟨0, by omega, rfl, h0.out, Below.refl _ _⟩
    case round =>
      obtain ⟨i, hi, rfl, hgo, hbel⟩ := hrel
      by_cases hlt : i < n
      · have hil : i < l.length := by rw [hn.out]; exact hlt
        have him : i < m.length := by rw [hmn.out]; exact hlt
        obtain ⟨b, off, rfl, hb, c0, c1⟩ := rd_at (hrn.out.of_below (Nat.le_refl _) hbel) hil
        obtain ⟨b', off', rfl, hb', d0, d1⟩ := rd_at (hsn.out.of_below (Nat.le_refl _) hbel) him
        rw [List.drop_eq_getElem_cons hil, List.drop_eq_getElem_cons him] at hgo
        generalize l[i] = p at *
        generalize m[i] = q at *
        obtain ⟨x, y⟩ := p
        obtain ⟨x', y'⟩ := q
        simp only at c0 c1 d0 d1
        by_cases hx : x = x' ∧ y = y'
        · obtain ⟨rfl, rfl⟩ := hx
          have hgo2 : Hid (G = decide (l.drop (i + 1) = m.drop (i + 1))) := by show _ = _; rw [hgo.out]; simp
          go_wp2_with fail
          go_quiet (fail)
          go_wp2_with fail
          go_roundw
          case rel => exact ⟨i + 1, by omega, by go_num, hgo2, below_drewN hbel _⟩
          case measure => simp [intOf]; omega
        · have hres : Hid (false = G) := by show _ = _; rw [hgo.out]; symm; rw [decide_eq_false_iff_not]; intro k; apply hx; injection k with k1 k2; injection k1 with k3 k4; exact ⟨k3, k4⟩
          by_cases hx1 : x = x'
          · subst hx1
            have hne : (y == y') = false := by simp; exact fun k => hx ⟨rfl, k⟩
            clear hx
            go_wp2_with fail
            go_quiet (fail)
            go_wp2_with fail
            go_ret
            exact ⟨by rw [← hres.out]; rfl, below_drewN hbel _⟩
          · have hne : (x == x') = false := by simpa using hx1
            clear hx hx1
            go_wp2_with fail
            go_quiet (fail)
            go_wp2_with fail
            go_ret
            exact ⟨by rw [← hres.out]; rfl, below_drewN hbel _⟩
      · have hres : Hid (true = G) := by
          show _ = _
          rw [hgo.out, List.drop_of_length_le (by rw [hn.out]; omega), List.drop_of_length_le (by rw [hmn.out]; omega)]
          simp
        go_wp2_with fail
        go_ret
        exact ⟨by rw [← hres.out]; rfl, hbel⟩
  · rw [decide_eq_false (fun k => hlm (by rw [k]))]
    have hne : ((l.length : Int) != (m.length : Int)) = true := by simp; omega
    generalize l.length = n at *
    generalize m.length = k at *
    clear hlm
    go_enter Tryz.func165, Tryz.ntmps165
    go_wp2_with fail
    go_ret
    exact ⟨rfl, Below.refl _ _⟩

theorem roll_same (A B : Option Addr) (c d : Nat) (l m : List Nd) (w : World) (hr : Rd w A l.length 2 (ndc l)) (hs : Rd w B m.length 2 (ndc m)) (hl : l.length ≤ 1000000) (hm : m.length ≤ 1000000) :
    Calls Tryz.prog 118 #[.slice A l.length c, .slice B m.length d] w fun e w' => e = .returned (.bool (decide (l = m))) ∧ Below w.heap.size w w' := by
  have h := hide (eql_c A B c d l m w hr hs hl hm)
  generalize decide (l = m) = G at *
  generalize l.length = n at *
  generalize m.length = k at *
  go_enter Tryz.func118, Tryz.ntmps118
  go_wp2_with fail
  refine h.out.mono ?_
  rintro e w1 ⟨rfl, hb1⟩
  go_wp2_with fail
  go_ret
  exact ⟨rfl, hb1⟩
end Go.Proofs.YteebghoijaaakaaGreat
/- The walks of layer 6, on: the reference's roll, a node's weight by a closure. By the prover of this repo. -/
namespace Go.Proofs.YteebghoijaaakaaGreat
open Go.RowKit
open TwigM RollM

/-- The number before place i; 0 at the first. -/
def prevId (l : List Nd) : Nat → Int | 0 => 0 | k + 1 => (l.getD k (0, 0)).1
theorem right_pos {L x : Int} (h : rightB L x = true) : 1 ≤ x := (right_iff.1 h).2.2.1

/-- Where a number is. -/
def idxF (id : Int) (i : Nat) : List Nd → Int
  | [] => -1
  | p :: r => if p.1 = id then (i : Int) else idxF id (i + 1) r
theorem idx_at {id : Int} {i : Nat} {p : Nd} {r : List Nd} (h : p.1 = id) : idxF id i (p :: r) = (i : Int) := if_pos h
theorem idx_on {id : Int} {i : Nat} {p : Nd} {r : List Nd} (h : ¬ p.1 = id) : idxF id i (p :: r) = idxF id (i + 1) r := if_neg h

theorem idx_find (id : Int) : ∀ (l : List Nd) (i : Nat), (idxF id i l = -1 ∧ findF id l = 0) ∨ (∃ k, idxF id i l = ((i + k : Nat) : Int) ∧ ∃ h : k < l.length, findF id l = l[k].2)
  | [], i => .inl ⟨rfl, rfl⟩
  | p :: r, i => by
    by_cases h : p.1 = id
    · exact .inr ⟨0, by rw [idx_at h, Nat.add_zero], by simp, by rw [find_at h]; rfl⟩
    · rw [idx_on h, find_on h]
      rcases idx_find id r (i + 1) with ⟨h1, h2⟩ | ⟨k, h1, h2, h3⟩
      · exact .inl ⟨h1, h2⟩
      · exact .inr ⟨k + 1, by rw [h1, show i + 1 + k = i + (k + 1) by omega], by simp; omega, by rw [h3]; simp⟩

end Go.Proofs.YteebghoijaaakaaGreat
/- The walks of layer 6, on: lists of nodes that the call owns; a clone. By the prover of this repo. -/
namespace Go.Proofs.YteebghoijaaakaaGreat
open Go.RowKit
open TwigM RollM

theorem elNode : Elem Tryz.prog 64 67 (nv (0, 0)) 2 16 := ⟨Tryz.underlying64, by kernel_rfl, rfl, by omega⟩
theorem ndv_length (l : List Nd) : (ndv l).length = l.length * 2 := by
  induction l with
  | nil => rfl
  | cons p l ih => simp [ndv] at *; omega
theorem ndv_append (l m : List Nd) : ndv (l ++ m) = ndv l ++ ndv m := by simp [ndv]
theorem ndv_snoc (l : List Nd) (p : Nd) : ndv (l ++ [p]) = ndv l ++ [.int .i64 p.1, .int .i64 p.2] := by simp [ndv]
theorem ndc_cons (p : Nd) (l : List Nd) (j : Nat) : ndc (p :: l) (j + 2) = ndc l j := by
  have h1 : (j + 2) % 2 = j % 2 := by omega
  have h2 : (j + 2) / 2 = j / 2 + 1 := by omega
  simp [ndc, h1, h2]
theorem ndv_get : ∀ (l : List Nd) (i : Nat), i < l.length * 2 → (ndv l)[i]? = some (ndc l i)
  | [], i, h => by simp at h
  | p :: l, 0, _ => by simp [ndv, ndc]
  | p :: l, 1, _ => by simp [ndv, ndc]
  | p :: l, i + 2, h => by
    rw [ndc_cons, ← ndv_get l i (by simp at h; omega)]
    simp [ndv]
theorem ndv_range (l : List Nd) : (List.range (l.length * 2)).map (ndc l) = ndv l := by
  apply List.ext_getElem?
  intro i
  by_cases h : i < l.length * 2
  · rw [ndv_get l i h]; simp [h]
  · rw [List.getElem?_eq_none (by simp; omega), List.getElem?_eq_none (by rw [ndv_length]; omega)]
theorem ndc_one (l : List Nd) (i : Nat) : (ndc l i).oneCell' = true := rfl
theorem nd_ones (p : Nd) : ∀ u ∈ [Value.int .i64 p.1, Value.int .i64 p.2], u.oneCell' = true := one2 rfl rfl
/-- What is owned reads as a list. -/
theorem own_nds {w : World} {base : Nat} {v : Value} {l : List Nd} (h : w.ownsRow base 67 2 v l.length (ndv l)) : Nds w v l := by
  obtain ⟨A, c, rfl, h1, h2, h3⟩ := own_form h
  refine ⟨A, c, rfl, h1, h2, h3, (own_rd h).congr fun i hi => ?_⟩
  show (ndv l).getD i undef = _
  rw [List.getD_eq_getElem?_getD, ndv_get l i hi]
  rfl

set_option maxRecDepth 100000 in
theorem clone_c (A : Option Addr) (c : Nat) (l : List Nd) (w : World) (hr : Rd w A l.length 2 (ndc l)) (hA : A = none → l.length = 0) (hl : l.length ≤ 1000000) :
    Calls Tryz.prog 166 #[.slice A l.length c] w fun e w' => ∃ v, e = .returned v ∧ Nds w' v l ∧ Below w.heap.size w w' := by
  cases A with
  | none =>
    have h0 := hA rfl
    have hn : l = [] := List.eq_nil_of_length_eq_zero h0
    subst hn
    have he := fun V => Lib.run_eql_slice_nil (P := Tryz.prog) V 64 67 none 0 c 0 0 Tryz.underlying64
    go_enter Tryz.func166, Tryz.ntmps166
    go_wp2_with fail
    go_ret
    exact ⟨_, rfl, Nds.nil _, Below.refl _ _⟩
  | some ad =>
    have hlen : Hid (l.length = l.length) := rfl
    have hrh := hide hr
    have hrange := hide (ndv_range l)
    have hone := hide (ndc_one l)
    obtain ⟨n, hn⟩ : ∃ n, l.length = n := ⟨_, rfl⟩
    rw [hn] at hl hrange
    have hrn : Hid (Rd w (some ad) n 2 (ndc l)) := by have := hr; rwa [hn] at this
    have hnh := hide hn
    rw [hn]
    clear hr hA hn hlen hrh
    have he := fun V => Lib.run_eql_slice_nil (P := Tryz.prog) V 64 67 (some ad) n c 0 0 Tryz.underlying64
    go_enter Tryz.func166, Tryz.ntmps166
    go_wp2_with (at_builtin; refine wpList_app elNode rfl (.tmp 5) (.tmp 6) rfl w.heap.size _ 0 [] rfl (World.ownsRow_lit w #[] 0 (Nat.le_refl _) (by unfold maxLen; omega) rfl) (some ad) n c (ndc l) rfl (hrn.out.alloc _) (fun i _ => hone.out i) (by omega) (by simp) (fun k => by cases k) ?_; intro v1 w1 how1 hb1 hgr1 hat1)
    go_ret
    have how2 : w1.ownsRow w.heap.size 67 2 v1 l.length (ndv l) := by
      rw [hrange.out, Nat.zero_add, List.nil_append] at how1
      rw [hnh.out]
      exact how1
    exact ⟨_, rfl, own_nds how2, (balloc0 _ _).trans hb1⟩
end Go.Proofs.YteebghoijaaakaaGreat
/- The walks of layer 6, on: a list in order. By the prover of this repo. -/
namespace Go.Proofs.YteebghoijaaakaaGreat
open Go.RowKit
open TwigM RollM

def sliceLen : Value → Nat | .slice _ n _ => n | _ => 0
theorem own_kept {w w' : World} {base : Nat} {e : TypeId} {size : Nat} {v : Value} {n : Nat} {xs : List Value} (h : w.ownsRow base e size v n xs) (hb : Below w.heap.size w w') : w'.ownsRow base e size v n xs := by
  obtain ⟨h1, h2⟩ := h
  refine ⟨h1, ?_⟩
  rcases h2 with h2 | ⟨g, cap, cur, k1, k2, k3, k4⟩
  · exact .inl h2
  · exact .inr ⟨g, cap, cur, k1, k2, (hb.block g (Array.getElem?_eq_some_iff.1 k3).1).trans k3, k4⟩
/-- What is left of a list behind its first. -/
theorem nds_tail {w : World} {b o c : Nat} {x : Nd} {l : List Nd} (hr : Rd w (some ⟨b, o, none⟩) (x :: l).length 2 (ndc (x :: l))) (h1 : (x :: l).length ≤ c) (h2 : c ≤ maxLen) :
    Nds w (.slice (if c = 1 then some ⟨b, o, none⟩ else some ⟨b, o + 2, none⟩) l.length (c - 1)) l := by
  obtain ⟨b', o', e, hb, hc⟩ := hr (by simp)
  injection e with e
  injection e with e1 e2
  subst e1 e2
  refine ⟨_, _, rfl, (fun h => by split at h <;> cases h), (by simp at h1; omega), (by omega), fun hl => ?_⟩
  have hc1 : ¬ c = 1 := by simp at h1; omega
  refine ⟨b, o + 2, if_neg hc1, hb, fun i hi => ?_⟩
  have := hc (i + 2) (by simp; omega)
  rw [ndc_cons] at this
  rw [show o + 2 + i = o + (i + 2) by omega]
  exact this
/-- Between two rounds: what is left of both, what is out. -/
def MrgRel (lt : Nd → Nd → Bool) (wc : World) (n : Nat) (G : List Nd) (va vb out : Value) (wr : World) : Prop :=
  ∃ (la lb acc : List Nd), Nds wc va la ∧ Nds wc vb lb ∧ wr.ownsRow wc.heap.size 67 2 out acc.length (ndv acc) ∧ la.length + lb.length + acc.length = n ∧ Hid (acc ++ mrg lt la lb = G) ∧ Below wc.heap.size wc wr
theorem step_app {P : Program} (w : World) {ops : Array Oper} {o : Oper} {a : Act} {K : Act → World → Prop} {Q : Exit → Act → World → Prop} {E : Prop} (d : Option Nat) (hd : o.dst = d) (hgd : o.guard = none) (s x : Operand) (t : TypeId)
    (ho : o.op = .call { callee := .builtin .append, args := #[s, x], argTypes := #[t, t] })
    (base : Nat) (e : TypeId) (i : TypeInfo) (z : Value) (size bytes : Nat) (ht : P.underlying t = some (.slice e)) (hi : P.info? e = some i) (hz : i.zero = some z)
    (hsize : i.size = size) (hby : i.bytes = bytes) (hzs : z.cells.size = size) (hsz : 0 < size)
    (v : Value) (n : Nat) (xs : List Value) (hs : a.eval s = v) (hown : w.ownsRow base e size v n xs)
    (ad : Addr) (m c : Nat) (news : List Value) (hx : a.eval x = .slice (some ad) m c) (hl : news.length = m * size) (hnews : ∀ j u, news[j]? = some u → w.cell? (ad.add j) = some u) (h1 : ∀ u ∈ news, u.oneCell' = true)
    (hm : 0 < m) (h63 : n + m ≤ maxLen) (hbytes : (n + m) * bytes ≤ 140737488355328) (hbase : base ≤ w.heap.size) (H : Nat) (hH : w.heap.size = H)
    (h : ∀ g cap w', w'.ownsRow base e size (.slice (some ⟨g, 0, none⟩) (n + m) cap) (n + m) (xs ++ news) → w.grownBy w' v.ownBlock → (v.ownBlock = some g ∨ g = H) → g < w'.heap.size → K (a.put d (.slice (some ⟨g, 0, none⟩) (n + m) cap)) w') :
    if Region.wanted o (yielded ops a.tmps) = true then Oper.wp P o a w K Q else E := by
  subst hd
  exact step_append_lies w hgd s x t ho base e i z size bytes ht hi hz hsize hby hzs hsz v n xs hs hown ad m c news hx hl hnews h1 hm h63 hbytes hbase H hH h
theorem isort_short {lt : Nd → Nd → Bool} {l : List Nd} (h : l.length < 2) : isort lt l = l := by
  match l, h with
  | [], _ => rfl
  | [p], _ => rfl
theorem ndc_take (l : List Nd) (m i : Nat) (h : i < m * 2) : ndc l i = ndc (l.take m) i := by
  have h2 : i / 2 < m := by omega
  simp [ndc, h2]
theorem ndc_drop (l : List Nd) (m i : Nat) : ndc l (m * 2 + i) = ndc (l.drop m) i := by
  have h1 : (m * 2 + i) % 2 = i % 2 := by omega
  have h2 : (m * 2 + i) / 2 = m + i / 2 := by omega
  simp [ndc, h1, h2]

/-- The comparison, in every later world. -/
def CmpS  (w : World) : Prop := ∀ (x y : Nd) (W' : World), Below w.heap.size w W' → Calls Tryz.prog 183 #[nv x, nv y] W' fun e w'' => e = .returned (.bool (ltS x y)) ∧ Below W'.heap.size W' w''
theorem CmpS.kept  {w w1 : World} (h : CmpS  w) (hb : Below w.heap.size w w1) : CmpS  w1 := fun x y W' hW => h x y W' (bthen hb hW)

set_option maxRecDepth 100000 in
set_option maxHeartbeats 8000000 in
theorem sorted_S  : ∀ (k n : Nat), n ≤ k → ∀ (A : Option Addr) (c : Nat) (l : List Nd) (w : World), Hid (l.length = n) → n ≤ 1000000 → Rd w A n 2 (ndc l) → (A = none → n = 0) → n ≤ c → c ≤ maxLen → CmpS  w →
    Calls Tryz.prog 182 #[.slice A n c, .func (.func 183) #[] #[]] w fun e w' => ∃ v, e = .returned v ∧ Nds w' v (isort (ltS) l) ∧ Below w.heap.size w w' := by
  intro k
  induction k with
  | zero =>
    intro n hk A c l w hl hn hr hA hnc hc hcmp
    obtain rfl : n = 0 := by omega
    have hcl := clone_c A c l w (by rw [hl.out]; exact hr) (by rw [hl.out]; exact hA) (by rw [hl.out]; omega)
    rw [hl.out] at hcl
    have hs : Hid (isort (ltS) l = l) := isort_short (by rw [hl.out]; omega)
    replace hcl := hide hcl
    clear hr hA hcmp
    go_enter Tryz.func182, Tryz.ntmps182
    go_wp2_with fail
    refine hcl.out.mono ?_
    rintro e w1 ⟨v, rfl, hv, hb1⟩
    go_wp2_with fail
    go_ret
    exact ⟨v, rfl, by rw [hs.out]; exact hv, hb1⟩
  | succ k ih =>
    intro n hk A c l w hl hn hr hA hnc hc hcmp
    by_cases h2 : n < 2
    · have hcl := clone_c A c l w (by rw [hl.out]; exact hr) (by rw [hl.out]; exact hA) (by rw [hl.out]; omega)
      rw [hl.out] at hcl
      have hs : Hid (isort (ltS) l = l) := isort_short (by rw [hl.out]; omega)
      replace hcl := hide hcl
      clear hr hA hcmp ih
      go_enter Tryz.func182, Tryz.ntmps182
      go_wp2_with fail
      refine hcl.out.mono ?_
      rintro e w1 ⟨v, rfl, hv, hb1⟩
      go_wp2_with fail
      go_ret
      exact ⟨v, rfl, by rw [hs.out]; exact hv, hb1⟩
    · obtain ⟨b, off, rfl, hb, hcell⟩ := hr (by omega)
      obtain ⟨mid, hmid⟩ : ∃ mid : Nat, (n : Int) / 2 = (mid : Int) := ⟨n / 2, by omega⟩
      have hm1 : 1 ≤ mid := by omega
      have hm2 : mid < n := by omega
      have hl1 : Hid ((l.take mid).length = mid) := by show _ = _; rw [List.length_take, hl.out]; omega
      have hl2 : Hid ((l.drop mid).length = n - mid) := by show _ = _; rw [List.length_drop, hl.out]
      have hr1 : Rd w (some ⟨b, off, none⟩) mid 2 (ndc (l.take mid)) := (hr.less (by omega)).congr fun i hi => by rw [ndc_take l mid i hi]
      have hr2 : Rd w (some ⟨b, off + mid * 2, none⟩) (n - mid) 2 (ndc (l.drop mid)) := fun _ => ⟨b, off + mid * 2, rfl, hb, fun i hi => by rw [Nat.add_assoc, hcell (mid * 2 + i) (by omega), ndc_drop]⟩
      have ih1 := hide (fun W' (hW : Below w.heap.size w W') => ih mid (by omega) (some ⟨b, off, none⟩) c (l.take mid) W' hl1 (by omega) (hr1.kept hW) (fun h => by cases h) (by omega) hc (hcmp.kept hW))
      have ih2 := hide (fun W' (hW : Below w.heap.size w W') => ih (n - mid) (by omega) (some ⟨b, off + mid * 2, none⟩) (c - mid) (l.drop mid) W' hl2 (by omega) (hr2.kept hW) (fun h => by cases h) (by omega) (by omega) (hcmp.kept hW))
      have hjoin := hide (isort_append (ordS) (l.take mid) (l.drop mid))
      have hmc : ¬ c = mid := by omega
      have hnm : ((n : Int) - (mid : Int)) = ((n - mid : Nat) : Int) := by omega
      have hcm : ((c : Int) - (mid : Int)) = ((c - mid : Nat) : Int) := by omega
      have hcmpH := hide hcmp
      have hlenH := hl
      clear hr hA hcell hr1 hr2 ih hcmp
      unfold maxLen at hc
      go_enter Tryz.func182, Tryz.ntmps182
      go_upto_region 4 with (fail)
      go_cut [6, 7] (fun va vb wc => Nds wc va (isort (ltS) (l.take mid)) ∧ Nds wc vb (isort (ltS) (l.drop mid)) ∧ Below w.heap.size w wc)
      case first =>
        go_region_with (go_at_call 182; first
          | ((with_reducible refine (ih1.out _ ?_).mono ?_); (first | exact Below.refl _ _ | exact (Below.refl _ _).drew | exact hb1 | exact hb2 | exact (Below.refl _ _).drew.trans hb1 | exact (Below.refl _ _).drew.trans hb2); rintro e w1 ⟨v1, rfl, hv1, hb1⟩)
          | ((with_reducible refine (ih2.out _ ?_).mono ?_); (first | exact Below.refl _ _ | exact (Below.refl _ _).drew | exact hb1 | exact hb2 | exact (Below.refl _ _).drew.trans hb1 | exact (Below.refl _ _).drew.trans hb2); rintro e w1 ⟨v2, rfl, hv2, hb2⟩))
        all_goals (go_wp2_with fail; go_meet)
        all_goals first
          | exact ⟨hv1.kept hb2, hv2, bthen ((Below.refl _ _).drew.trans hb1) hb2⟩
          | exact ⟨hv1, hv2.kept hb1, bthen ((Below.refl _ _).drew.trans hb2) hb1⟩
      case rest =>
        obtain ⟨hva, hvb, hbo⟩ := hcut
        have hla := hide (isort_length (lt := ltS) (l.take mid))
        have hlb := hide (isort_length (lt := ltS) (l.drop mid))
        have hG0 := hjoin.out
        rw [List.take_append_drop] at hG0
        generalize hGe : isort (ltS) l = G at *
        replace hG0 := hide hG0
        replace hGe := hide hGe
        generalize isort (ltS) (l.take mid) = la0 at *
        generalize isort (ltS) (l.drop mid) = lb0 at *
        have hlen : la0.length + lb0.length = n := by rw [hla.out, hlb.out, hl1.out, hl2.out]; omega
        have hcmpO := hide (hcmpH.out.kept hbo)
        clear ih1 ih2 hjoin hla hlb hcmpH hmid hnm hcm hmc
        go_wp2_with fail
        go_loopw [6, 7, 8] (fun va vb out wr => MrgRel (ltS) wc n G va vb out wr) (fun va vb _ _ => sliceLen va + sliceLen vb)
        case atStart => exact ⟨la0, lb0, [], hva, hvb, World.ownsRow_nil _ _ _ _, by simpa using hlen, by show _ = _; rw [List.nil_append]; exact hG0.out, Below.refl _ _⟩
        case round =>
          clear hva hvb hlen
          obtain ⟨la, lb, acc, hva, hvb, how, hlen, hgo, hbel⟩ := hrel
          cases la with
          | nil =>
            have hend : Hid (acc ++ ([] : List Nd) ++ lb = G) := by show _ = _; rw [← hgo.out, mrg_nil]; simp
            obtain ⟨Aa, ca, rfl, hAa, _, _, hRa⟩ := hva
            obtain ⟨Ab, cb, rfl, hAb, _, _, hRb⟩ := hvb
            have hra := hide (ndv_range ([] : List Nd))
            have hrb := hide (ndv_range lb)
            obtain ⟨na, hna⟩ : ∃ na, (([] : List Nd)).length = na := ⟨_, rfl⟩
            obtain ⟨nb, hnb⟩ : ∃ nb, (lb).length = nb := ⟨_, rfl⟩
            rw [hna] at hlen hAa hRa hra
            rw [hnb] at hlen hAb hRb hrb
            obtain ⟨m0, hm0⟩ : ∃ m0, acc.length = m0 := ⟨_, rfl⟩
            rw [hm0] at hlen how
            have hna0 : na = 0 := by rw [← hna]; rfl
            subst hna0
            have hm0h := hide hm0
            have hnah := hide hna
            have hnbh := hide hnb
            rw [hna, hnb]
            clear hm0 hna hnb
            go_wp2_with (first
              | (at_builtin; refine wpList_app elNode rfl (.tmp 59) (.tmp 60) rfl wc.heap.size _ _ _ rfl how Aa 0 ca (ndc (([] : List Nd))) rfl (hRa.of_below (Nat.le_refl _) hbel) (fun i _ => ndc_one _ i) (by omega) hbel.size hAa ?_; intro v1 w1 how1 hb1 hgr1 hat1)
              | (at_builtin; refine wpList_app elNode rfl (.tmp 61) (.tmp 62) rfl wc.heap.size _ _ _ rfl how1 Ab nb cb (ndc (lb)) rfl (hRb.of_below (Nat.le_refl _) (hbel.trans hb1)) (fun i _ => ndc_one _ i) (by omega) (hbel.trans hb1).size hAb ?_; intro v2 w2 how2 hb2 hgr2 hat2))
            have hbel1 := hbel.trans hb1
            go_ret
            refine ⟨v2, rfl, ?_, bthen hbo (hbel1.trans hb2)⟩
            rw [hGe.out, ← hend.out]
            refine own_nds (base := wc.heap.size) ?_
            rw [hra.out, hrb.out, ← ndv_append, ← ndv_append] at how2
            have e : (acc ++ ([] : List Nd) ++ lb).length = m0 + 0 + nb := by rw [List.length_append, List.length_append, hm0h.out, hnah.out, hnbh.out]
            rw [e]
            exact how2
          | cons x la =>
            cases lb with
            | nil =>
              have hend : Hid (acc ++ (x :: la) ++ ([] : List Nd) = G) := by show _ = _; rw [← hgo.out, mrg_nil']; simp
              obtain ⟨Aa, ca, rfl, hAa, _, _, hRa⟩ := hva
              obtain ⟨Ab, cb, rfl, hAb, _, _, hRb⟩ := hvb
              have hra := hide (ndv_range (x :: la))
              have hrb := hide (ndv_range ([] : List Nd))
              obtain ⟨na, hna⟩ : ∃ na, ((x :: la)).length = na := ⟨_, rfl⟩
              obtain ⟨nb, hnb⟩ : ∃ nb, (([] : List Nd)).length = nb := ⟨_, rfl⟩
              rw [hna] at hlen hAa hRa hra
              rw [hnb] at hlen hAb hRb hrb
              obtain ⟨m0, hm0⟩ : ∃ m0, acc.length = m0 := ⟨_, rfl⟩
              rw [hm0] at hlen how
              have hnb0 : nb = 0 := by rw [← hnb]; rfl
              subst hnb0
              have hna0 : (0 : Int) < (na : Int) := by rw [← hna]; simp
              have hm0h := hide hm0
              have hnah := hide hna
              have hnbh := hide hnb
              rw [hna, hnb]
              clear hm0 hna hnb
              go_wp2_with (first
                | (at_builtin; refine wpList_app elNode rfl (.tmp 59) (.tmp 60) rfl wc.heap.size _ _ _ rfl how Aa na ca (ndc ((x :: la))) rfl (hRa.of_below (Nat.le_refl _) hbel) (fun i _ => ndc_one _ i) (by omega) hbel.size hAa ?_; intro v1 w1 how1 hb1 hgr1 hat1)
                | (at_builtin; refine wpList_app elNode rfl (.tmp 61) (.tmp 62) rfl wc.heap.size _ _ _ rfl how1 Ab 0 cb (ndc (([] : List Nd))) rfl (hRb.of_below (Nat.le_refl _) (hbel.trans hb1)) (fun i _ => ndc_one _ i) (by omega) (hbel.trans hb1).size hAb ?_; intro v2 w2 how2 hb2 hgr2 hat2))
              have hbel1 := hbel.trans hb1
              go_ret
              refine ⟨v2, rfl, ?_, bthen hbo (hbel1.trans hb2)⟩
              rw [hGe.out, ← hend.out]
              refine own_nds (base := wc.heap.size) ?_
              rw [hra.out, hrb.out, ← ndv_append, ← ndv_append] at how2
              have e : (acc ++ (x :: la) ++ ([] : List Nd)).length = m0 + na + 0 := by rw [List.length_append, List.length_append, hm0h.out, hnah.out, hnbh.out]
              rw [e]
              exact how2
            | cons y lb =>
              obtain ⟨Aa, ca, rfl, hAa, hca1, hca2, hRa⟩ := hva
              obtain ⟨Ab, cb, rfl, hAb, hcb1, hcb2, hRb⟩ := hvb
              obtain ⟨ba, oa, rfl, hba, ra0, ra1⟩ := rd_at hRa (k := 0) (by simp)
              obtain ⟨bb, ob, rfl, hbb, rb0, rb1⟩ := rd_at hRb (k := 0) (by simp)
              have hNa0 := hide (show Nds wc (.slice (some ⟨ba, oa, none⟩) (x :: la).length ca) (x :: la) from ⟨_, _, rfl, hAa, hca1, hca2, hRa⟩)
              have hNb0 := hide (show Nds wc (.slice (some ⟨bb, ob, none⟩) (y :: lb).length cb) (y :: lb) from ⟨_, _, rfl, hAb, hcb1, hcb2, hRb⟩)
              have hNa := hide (nds_tail hRa hca1 hca2)
              have hNb := hide (nds_tail hRb hcb1 hcb2)
              simp only [Nat.zero_mul, Nat.add_zero, List.getElem_cons_zero] at ra0 ra1 rb0 rb1
              obtain ⟨x1, x2⟩ := x
              obtain ⟨y1, y2⟩ := y
              simp only at ra0 ra1 rb0 rb1
              simp only [List.length_cons] at hca1 hcb1 hlen
              have hmc := hide (mrg_cons (lt := ltS) (x1, x2) (y1, y2) la lb)
              clear hRa hRb hAa hAb
              obtain ⟨m0, hm0⟩ : ∃ m0, acc.length = m0 := ⟨_, rfl⟩
              rw [hm0] at hlen how
              obtain ⟨na, hna⟩ : ∃ na, la.length = na := ⟨_, rfl⟩
              obtain ⟨nb, hnb⟩ : ∃ nb, lb.length = nb := ⟨_, rfl⟩
              rw [hna] at hca1 hlen
              rw [hnb] at hcb1 hlen
              simp only [List.length_cons]
              rw [hna, hnb]
              replace hm0 := hide hm0
              replace hna := hide hna
              replace hnb := hide hnb
              have hz := hbel.size
              have qa0 := (hbel.cell (p := ⟨ba, oa, none⟩) hba).trans ra0
              have qa1 := (hbel.cell (p := ⟨ba, oa + 1, none⟩) hba).trans ra1
              have qb0 := (hbel.cell (p := ⟨bb, ob, none⟩) hbb).trans rb0
              have qb1 := (hbel.cell (p := ⟨bb, ob + 1, none⟩) hbb).trans rb1
              have hba' : ba < wr.heap.size := by omega
              have hbb' : bb < wr.heap.size := by omega
              have hC := fun (e : Later wr.heap.size wr) => hcmpO.out (y1, y2) (x1, x2) e.val (hbel.trans (e.property.mono hz))
              unfold maxLen at hca2 hcb2
              cases hB : ltS (y1, y2) (x1, x2)
              all_goals
                simp only [hB] at hC
                replace hC := hide hC
                go_wp2_with fail
                refine wp_region_later (by kernel_rfl) (by kernel_rfl) ?_
                repeat (go_big_quiet_step (first | (go_at_call 183; exact calls_later (hC.out _)) | exact rfl))
                refine wpQuiet_nil ?_
                rintro _ ⟨e1, rfl⟩
                have bel1 := hbel.trans (e1.property.mono hz)
                have how1 := own_kept how e1.property
                clear how hbel qa0 qa1 qb0 qb1 hz hba' hbb' hC
                generalize e1.val = w1 at *
                clear e1
                have hz := bel1.size
                have qa0 := (bel1.cell (p := ⟨ba, oa, none⟩) hba).trans ra0
                have qa1 := (bel1.cell (p := ⟨ba, oa + 1, none⟩) hba).trans ra1
                have qb0 := (bel1.cell (p := ⟨bb, ob, none⟩) hbb).trans rb0
                have qb1 := (bel1.cell (p := ⟨bb, ob + 1, none⟩) hbb).trans rb1
                have hba' : ba < w1.heap.size := by omega
                have hbb' : bb < w1.heap.size := by omega
                have aga : Value.ownBlock _ ≠ some ba := fun k => by have := (how1.lt ba k).1; omega
                have agb : Value.ownBlock _ ≠ some bb := fun k => by have := (how1.lt bb k).1; omega
              · by_cases hk : ca = 1
                all_goals
                  obtain ⟨i0, hi0, hz0, hz1, hz2⟩ := info_parts elNode.info
                  go_wp2_with fail
                  go_region_held_law (fun w' => w'.cell? ⟨ba, oa, none⟩ = some (.int .i64 x1) ∧ w'.cell? ⟨ba, oa + 1, none⟩ = some (.int .i64 x2))
                    (first
                      | go_keep
                      | (go_split_ands
                         refine ⟨?_, ?_⟩
                         · (rw [hgrow.cell_far _ (by simp; omega) (Ne.symm aga)]; assumption)
                         · (rw [hgrow.cell_far _ (by simp; omega) (Ne.symm aga)]; assumption)))
                    ((refine step_app _ (some 56) (by rfl) (by rfl) _ _ _ (by rfl) wc.heap.size 67 i0 _ 2 16 Tryz.underlying64 hi0 hz0 hz1 hz2 rfl (by omega) _ m0 (ndv acc) (by rfl) ((how1.alloc _).drew)
                        ⟨w1.heap.size, 0, none⟩ 1 1 [.int .i64 x1, .int .i64 x2] (by rfl) (by rfl) (World.news_of_block (cs := #[.int .i64 x1, .int .i64 x2]) (t := 67) (fr := (0, 0)) (heap_alloc_new w1 _)) (by simp [Value.oneCell'])
                        (by omega) (by unfold maxLen; omega) (by omega) (by simp; omega) (w1.heap.size + 1) (by simp) ?_; intro gg cap w2 how2 hgrow hat hlt))
                  all_goals
                    have how3 : w2.ownsRow wc.heap.size 67 2 (.slice (some ⟨gg, 0, none⟩) (m0 + 1) cap) (acc ++ [(x1, x2)]).length (ndv (acc ++ [(x1, x2)])) := by
                      rw [ndv_snoc, List.length_append, hm0.out]; exact how2
                    have hgo2 : Hid ((acc ++ [(x1, x2)]) ++ mrg (ltS) la ((y1, y2) :: lb) = G) := by
                      show _ = _
                      rw [← hgo.out, hmc.out, if_neg (by rw [hB]; simp), List.append_assoc]; rfl
                    have hbel3 : Below wc.heap.size wc w2 := ((bel1.alloc hz _).drew).grown hgrow (by simp; omega) (fun k hk => (how1.lt k hk).1)
                    go_wp2_with fail
                    go_roundw
                    case rel => exact ⟨la, (y1, y2) :: lb, acc ++ [(x1, x2)], (by first | (have q := hNa.out; rw [if_pos hk, hna.out, hk] at q; exact q) | (have q := hNa.out; rw [if_neg hk, hna.out] at q; exact q)), (by have q := hNb0.out; rw [List.length_cons, hnb.out] at q; exact q), how3, (by simp only [List.length_cons, List.length_append, List.length_nil]; rw [hna.out, hnb.out, hm0.out]; omega), hgo2, hbel3⟩
                    case measure => show na + (nb + 1) < na + 1 + (nb + 1); omega
              · by_cases hk : cb = 1
                all_goals
                  obtain ⟨i0, hi0, hz0, hz1, hz2⟩ := info_parts elNode.info
                  go_wp2_with fail
                  go_region_held_law (fun w' => w'.cell? ⟨bb, ob, none⟩ = some (.int .i64 y1) ∧ w'.cell? ⟨bb, ob + 1, none⟩ = some (.int .i64 y2))
                    (first
                      | go_keep
                      | (go_split_ands
                         refine ⟨?_, ?_⟩
                         · (rw [hgrow.cell_far _ (by simp; omega) (Ne.symm agb)]; assumption)
                         · (rw [hgrow.cell_far _ (by simp; omega) (Ne.symm agb)]; assumption)))
                    ((refine step_app _ (some 48) (by rfl) (by rfl) _ _ _ (by rfl) wc.heap.size 67 i0 _ 2 16 Tryz.underlying64 hi0 hz0 hz1 hz2 rfl (by omega) _ m0 (ndv acc) (by rfl) ((how1.alloc _).drew)
                        ⟨w1.heap.size, 0, none⟩ 1 1 [.int .i64 y1, .int .i64 y2] (by rfl) (by rfl) (World.news_of_block (cs := #[.int .i64 y1, .int .i64 y2]) (t := 67) (fr := (0, 0)) (heap_alloc_new w1 _)) (by simp [Value.oneCell'])
                        (by omega) (by unfold maxLen; omega) (by omega) (by simp; omega) (w1.heap.size + 1) (by simp) ?_; intro gg cap w2 how2 hgrow hat hlt))
                  all_goals
                    have how3 : w2.ownsRow wc.heap.size 67 2 (.slice (some ⟨gg, 0, none⟩) (m0 + 1) cap) (acc ++ [(y1, y2)]).length (ndv (acc ++ [(y1, y2)])) := by
                      rw [ndv_snoc, List.length_append, hm0.out]; exact how2
                    have hgo2 : Hid ((acc ++ [(y1, y2)]) ++ mrg (ltS) ((x1, x2) :: la) lb = G) := by
                      show _ = _
                      rw [← hgo.out, hmc.out, if_pos hB, List.append_assoc]; rfl
                    have hbel3 : Below wc.heap.size wc w2 := ((bel1.alloc hz _).drew).grown hgrow (by simp; omega) (fun k hk => (how1.lt k hk).1)
                    go_wp2_with fail
                    go_roundw
                    case rel => exact ⟨(x1, x2) :: la, lb, acc ++ [(y1, y2)], (by have q := hNa0.out; rw [List.length_cons, hna.out] at q; exact q), (by first | (have q := hNb.out; rw [if_pos hk, hnb.out, hk] at q; exact q) | (have q := hNb.out; rw [if_neg hk, hnb.out] at q; exact q)), how3, (by simp only [List.length_cons, List.length_append, List.length_nil]; rw [hna.out, hnb.out, hm0.out]; omega), hgo2, hbel3⟩
                    case measure => show na + 1 + nb < na + 1 + (nb + 1); omega
end Go.Proofs.YteebghoijaaakaaGreat
/- The walks of layer 6, on: by rising numbers; one more put at a place. By the prover of this repo. -/
namespace Go.Proofs.YteebghoijaaakaaGreat
open Go.RowKit
open TwigM RollM

theorem sorted_lt (x y : Nd) (w : World) : Calls Tryz.prog 183 #[nv x, nv y] w fun e w' => e = .returned (.bool (ltS x y)) ∧ Below w.heap.size w w' := by
  obtain ⟨x1, x2⟩ := x
  obtain ⟨y1, y2⟩ := y
  unfold ltS
  go_enter Tryz.func183, Tryz.ntmps183
  go_wp2_with fail
  go_ret
  exact ⟨rfl, balloc (balloc0 _ _) _⟩
theorem cmpS (w : World) : CmpS w := fun x y W' _ => sorted_lt x y W'

theorem roll_sorted (A : Option Addr) (c : Nat) (l : List Nd) (w : World) (hr : Rd w A l.length 2 (ndc l)) (hA : A = none → l.length = 0) (hc : l.length ≤ c) (hm : c ≤ maxLen) (hl : l.length ≤ 1000000) :
    Calls Tryz.prog 146 #[.slice A l.length c] w fun e w' => ∃ v, e = .returned v ∧ Nds w' v (isort ltS l) ∧ Below w.heap.size w w' := by
  have h := hide (sorted_S l.length l.length (Nat.le_refl _) A c l w rfl hl hr hA hc hm (cmpS w))
  generalize l.length = n at *
  go_enter Tryz.func146, Tryz.ntmps146
  go_wp2_with fail
  refine h.out.mono ?_
  rintro e w1 ⟨v, rfl, hv, hb1⟩
  go_wp2_with fail
  go_ret
  exact ⟨v, rfl, hv, hb1⟩

/-- A list that a call has made: nil, or the head of a block. -/
def Ndo (w : World) (v : Value) (l : List Nd) : Prop :=
  (v = .slice none 0 0 ∧ l = []) ∨ ∃ g c, v = .slice (some ⟨g, 0, none⟩) l.length c ∧ l.length ≤ c ∧ c ≤ maxLen ∧ Rd w (some ⟨g, 0, none⟩) l.length 2 (ndc l)
theorem own_ndo {w : World} {base : Nat} {v : Value} {l : List Nd} (h : w.ownsRow base 67 2 v l.length (ndv l)) : Ndo w v l := by
  rcases h.2 with ⟨rfl, h0⟩ | ⟨g, cap, cur, rfl, _, _, h1, h2, _⟩
  · exact .inl ⟨rfl, List.eq_nil_of_length_eq_zero h0⟩
  · refine .inr ⟨g, cap, rfl, h1, h2, (own_rd h).congr fun i hi => ?_⟩
    show (ndv l).getD i undef = _
    rw [List.getD_eq_getElem?_getD, ndv_get l i hi]
    rfl
theorem Ndo.kept {w w' : World} {v : Value} {l : List Nd} (h : Ndo w v l) (hb : Below w.heap.size w w') : Ndo w' v l := by
  rcases h with h | ⟨g, c, h1, h2, h3, h4⟩
  · exact .inl h
  · exact .inr ⟨g, c, h1, h2, h3, h4.kept hb⟩
theorem Ndo.nds {w : World} {v : Value} {l : List Nd} (h : Ndo w v l) : Nds w v l := by
  rcases h with ⟨rfl, rfl⟩ | ⟨g, c, rfl, h2, h3, h4⟩
  · exact Nds.nil w
  · exact ⟨_, c, rfl, (fun h => by cases h), h2, h3, h4⟩

/-- A box of two cells behind a call that only wrote beyond it. -/
theorem box_cells {w w1 : World} {a b : Value} {t : TypeId} (hb : Below (w.heap.size + 1) (w.alloc (.cells #[a, b] t)) w1) : w1.cell? ⟨w.heap.size, 0, none⟩ = some a ∧ w1.cell? ⟨w.heap.size, 1, none⟩ = some b ∧ w.heap.size < w1.heap.size := by
  have h := (Blk.made w t #[a, b]).below hb (by omega)
  exact ⟨h.cell 0, h.cell 1, h.lt⟩
theorem put_three (l : List Nd) (k : Nat) (x : Nd) : ndv (l.take k) ++ [.int .i64 x.1, .int .i64 x.2] ++ ndv (l.drop k) = ndv (l.take k ++ x :: l.drop k) := by simp [ndv]
theorem put_len (l : List Nd) (k : Nat) (x : Nd) (h : k ≤ l.length) : (l.take k ++ x :: l.drop k).length = l.length + 1 := by simp; omega
theorem ndv_take (l : List Nd) (k : Nat) (h : k ≤ l.length) : (List.range (k * 2)).map (ndc l) = ndv (l.take k) := by
  rw [← ndv_range (l.take k), List.length_take, Nat.min_eq_left h]
  exact List.map_congr_left fun i hi => ndc_take l k i (by simpa using hi)

end Go.Proofs.YteebghoijaaakaaGreat
/- The walks of layer 6, on: each number once. By the prover of this repo. -/
namespace Go.Proofs.YteebghoijaaakaaGreat
open Go.RowKit
open TwigM RollM

theorem lastId_snoc : ∀ (l : List Nd) (q : Nd), lastId (l ++ [q]) = some q.1
  | [], q => rfl
  | [a], q => rfl
  | a :: b :: l, q => by have := lastId_snoc (b :: l) q; simpa [lastId] using this
theorem bump_snoc (n : Int) : ∀ (l : List Nd) (q : Nd), bump n (l ++ [q]) = l ++ [(q.1, wrap64 (q.2 + n))]
  | [], q => rfl
  | [a], q => rfl
  | a :: b :: l, q => by have := bump_snoc n (b :: l) q; simpa [bump] using this
theorem fold_nil (out : List Nd) : foldGo out [] = (out, true) := rfl
theorem fold_bad {out : List Nd} {p : Nd} {r : List Nd} (h : p.1 < 1) : foldGo out (p :: r) = ([], false) := if_pos h
theorem fold_zero {out : List Nd} {p : Nd} {r : List Nd} (h : ¬ p.1 < 1) (h2 : p.2 = 0) : foldGo out (p :: r) = foldGo out r := by rw [foldGo, if_neg h, if_pos h2]
theorem fold_new {p : Nd} {r : List Nd} (h : ¬ p.1 < 1) (h2 : ¬ p.2 = 0) : foldGo [] (p :: r) = foldGo [p] r := by rw [foldGo, if_neg h, if_neg h2, if_neg (by simp [lastId])]; rfl
theorem fold_bump {out : List Nd} {q p : Nd} {r : List Nd} (h : ¬ p.1 < 1) (h2 : ¬ p.2 = 0) (h3 : q.1 = p.1) : foldGo (out ++ [q]) (p :: r) = foldGo (out ++ [(q.1, wrap64 (q.2 + p.2))]) r := by
  rw [foldGo, if_neg h, if_neg h2, if_pos (by rw [lastId_snoc, h3]), bump_snoc]
theorem fold_app {out : List Nd} {q p : Nd} {r : List Nd} (h : ¬ p.1 < 1) (h2 : ¬ p.2 = 0) (h3 : ¬ q.1 = p.1) : foldGo (out ++ [q]) (p :: r) = foldGo (out ++ [q] ++ [p]) r := by
  rw [foldGo, if_neg h, if_neg h2, if_neg (by rw [lastId_snoc]; simpa using h3)]
theorem set_end {a b u : Value} : ∀ (l : List Value) (k : Nat), k = l.length → (l ++ [a, b]).set (k + 1) u = l ++ [a, u]
  | [], _, rfl => rfl
  | x :: l, _, rfl => by
    rw [List.cons_append, List.length_cons, List.set_cons_succ, set_end l _ rfl]
    rfl
theorem ndv_bump (out : List Nd) (q : Nd) (y : Int) : (ndv (out ++ [q])).set (out.length * 2 + 1) (.int .i64 y) = ndv (out ++ [(q.1, y)]) := by
  rw [ndv_snoc, ndv_snoc, set_end _ _ (by rw [ndv_length])]
theorem own_len {w : World} {base n : Nat} {v : Value} {xs : List Value} (h : w.ownsRow base 67 2 v n xs) : ∃ A c, v = .slice A n c := by
  rcases h.2 with ⟨rfl, rfl⟩ | ⟨g, cap, cur, rfl, _⟩
  · exact ⟨_, _, rfl⟩
  · exact ⟨_, _, rfl⟩

/-- One that is owned, with its last element. -/
theorem own_last {w : World} {base : Nat} {v : Value} {out : List Nd} {q : Nd} {m : Nat} (hm : out.length = m) (h : w.ownsRow base 67 2 v (m + 1) (ndv (out ++ [q]))) :
    ∃ g c, v = .slice (some ⟨g, 0, none⟩) (m + 1) c ∧ base ≤ g ∧ g < w.heap.size ∧ w.cell? ⟨g, m * 2, none⟩ = some (.int .i64 q.1) ∧ w.cell? ⟨g, m * 2 + 1, none⟩ = some (.int .i64 q.2) ∧ w.frozen? ⟨g, m * 2 + 1, none⟩ = false := by
  obtain ⟨g, c, rfl⟩ : ∃ g c, v = .slice (some ⟨g, 0, none⟩) (m + 1) c := by
    rcases h.2 with ⟨_, h0⟩ | ⟨g, cap, cur, rfl, _⟩
    · omega
    · exact ⟨_, _, rfl⟩
  have hlt := h.lt g rfl
  refine ⟨g, c, rfl, hlt.1, hlt.2, ?_, ?_, h.frozenAt _⟩
  · rw [h.cellAt _ (by omega), ndv_snoc, List.getElem?_append_right (by rw [ndv_length]; omega), ndv_length, hm, Nat.sub_self]; rfl
  · rw [h.cellAt _ (by omega), ndv_snoc, List.getElem?_append_right (by rw [ndv_length]; omega), ndv_length, hm, Nat.add_sub_cancel_left]; rfl

theorem wp_still_tail {P : Program} {id : Nat} {Q : Exit → Act → World → Prop} {a : Act} {w : World} {l : List Oper} (n : Nat) (hm : P.follows .mixedOrders = true) (hB : Region.lexTailB .any l.toArray n = true)
    (h : ∀ V, V = w.drewN 1 → wpStill P l.toArray V (fun a' => wpList P l.toArray Q (l.drop n) a' V) (l.take n) a) : (Code.region id l.toArray true).wp P Q a w :=
  wp_region_still_tail n hm hB (h _ rfl)

/-- What a round of the folding holds. -/
def FoldRel (w : World) (base n : Nat) (S : List Nd) (G : List Nd × Bool) (out k : Value) (wr : World) : Prop :=
  ∃ (i : Nat) (acc : List Nd), i ≤ n ∧ k = .int .i64 i ∧ acc.length ≤ i ∧ wr.ownsRow base 67 2 out acc.length (ndv acc) ∧ Hid (foldGo acc (S.drop i) = G) ∧ Below base w wr

set_option maxRecDepth 100000 in
set_option maxHeartbeats 4000000 in
theorem roll_fold (A : Option Addr) (c : Nat) (l : List Nd) (w : World) (hr : Rd w A l.length 2 (ndc l)) (hA : A = none → l.length = 0) (hc : l.length ≤ c) (hm : c ≤ maxLen) (hl : l.length ≤ 1000000) (hwf : NdWf l) :
    Calls Tryz.prog 97 #[.slice A l.length c] w fun e w' => ∃ v, e = .returned (.tuple #[v, .bool (foldF l).2]) ∧ Nds w' v (foldF l).1 ∧ Below w.heap.size w w' := by
  have hT := roll_total A c l w hr hl hwf
  have hS := fun W (hW : Below w.heap.size w W) => roll_sorted A c l W (hr.kept hW) hA hc hm hl
  unfold foldF
  generalize totF l = tt at hT ⊢
  obtain ⟨tn, tb⟩ := tt
  have hlen : Hid ((isort ltS l).length ≤ 1000000) := by show _ ≤ _; rw [isort_length]; exact hl
  generalize isort ltS l = S at *
  replace hT := hide hT
  replace hS := hide hS
  clear hr hA hc hm hl
  cases tb
  · generalize l.length = n at *
    go_enter Tryz.func97, Tryz.ntmps97
    go_wp2_with fail
    refine hT.out.mono ?_
    rintro e w1 ⟨rfl, hb1⟩
    go_wp2_with fail
    go_ret2
    exact ⟨_, rfl, Nds.nil _, hb1⟩
  · rw [if_pos rfl]
    generalize hG : foldGo [] S = G at *
    replace hG := hide hG
    generalize l.length = ln at *
    go_enter Tryz.func97, Tryz.ntmps97
    go_wp2_with fail
    refine hT.out.mono ?_
    rintro e w1 ⟨rfl, hb1⟩
    go_wp2_with fail
    refine (hS.out _ hb1).mono ?_
    rintro e w2 ⟨v, rfl, hv, hb2⟩
    obtain ⟨A2, c2, rfl, hA2, _, _, hr2⟩ := hv
    obtain ⟨n, hn⟩ : ∃ n, Hid (S.length = n) := ⟨_, rfl⟩
    have hrn : Hid (Rd w2 A2 S.length 2 (ndc S)) := hr2
    have hl2 : n ≤ 1000000 := by rw [← hn.out]; exact hlen.out
    have hb3 := bthen hb1 hb2
    have hw2 := hb3.size
    rw [hn.out]
    clear hr2 hA2 hT hS hb1 hb2
    go_wp2_with fail
    go_loopw [6, 20] (fun out k wr => FoldRel w2 w2.heap.size n S G out k wr) (fun _ k _ => n - (intOf k).toNat)
    case atStart => exact ⟨0, [], by omega, rfl, by simp, World.ownsRow_nil _ _ _ _, by show _ = _; rw [List.drop_zero]; exact hG.out, Below.refl _ _⟩
    case round =>
      obtain ⟨i, acc, hi, rfl, hacc, how, hgo, hbel⟩ := hrel
      by_cases hlt : i < n
      · have hil : i < S.length := by rw [hn.out]; exact hlt
        obtain ⟨b, off, rfl, hb, c0, c1⟩ := rd_at (hrn.out.of_below (Nat.le_refl _) hbel) hil
        rw [List.drop_eq_getElem_cons hil] at hgo
        generalize S[i] = p at *
        obtain ⟨x, y⟩ := p
        simp only at c0 c1
        have hmi : Hid (acc.length ≤ i) := hacc
        by_cases hx : x < 1
        · have hres : Hid (([], false) = G) := by show _ = _; rw [← hgo.out, fold_bad hx]
          generalize acc.length = m at *
          obtain ⟨Ao, co, rfl⟩ := own_len how
          go_wp2_with fail
          go_ret2
          refine ⟨_, by rw [← hres.out]; rfl, by rw [← hres.out]; exact Nds.nil _, bthen hb3 (balloc hbel _)⟩
        · by_cases hy : y = 0
          · have hgo2 : Hid (foldGo acc (S.drop (i + 1)) = G) := by show _ = _; rw [← hgo.out, fold_zero hx hy]
            subst hy
            generalize hm : acc.length = m at *
            replace hm := hide hm
            obtain ⟨Ao, co, rfl⟩ := own_len how
            go_wp2_with fail
            go_roundw
            case rel => exact ⟨i + 1, acc, by omega, by go_num, by rw [hm.out]; omega, by rw [hm.out]; exact how.alloc _, hgo2, balloc hbel _⟩
            case measure => simp [intOf]; omega
          · have hyf : (y == 0) = false := by simpa using hy
            rcases List.eq_nil_or_concat acc with hacc0 | ⟨init, q, hacc0⟩
            · subst hacc0
              have hgo2 : Hid (foldGo [(x, y)] (S.drop (i + 1)) = G) := by show _ = _; rw [← hgo.out, fold_new hx hy]
              clear hy hmi hacc
              simp only [List.length_nil] at how
              obtain ⟨Ao, co, rfl⟩ := own_len how
              have howk : ∀ (o : Obj) (k : Nat), ((wr.alloc o).drewN k).ownsRow w2.heap.size 67 2 (.slice Ao 0 co) 0 (ndv []) := fun o k => how.alloc o
              replace howk := hide howk
              go_wp2_with fail
              go_quiet (fail)
              go_wp2_with (at_builtin; go_loud (refine wpList_app1 elNode rfl (.tmp 26) (.tmp 28) rfl w2.heap.size _ _ _ [.int .i64 x, .int .i64 y] 67 rfl (howk.out _ _) (show Value.slice (some ⟨wr.heap.size + 1, 0, none⟩) 1 1 = .slice (some ⟨((wr.alloc _).drewN _).heap.size, 0, none⟩) 1 1 from by simp) rfl (nd_ones (x, y)) (by omega) (by have := hbel.size; simp; omega) ?_); intro v1 w1 how1 hb1 hgr1 hat1)
              go_roundw
              case rel => exact ⟨i + 1, [(x, y)], by omega, by go_num, by simp, how1, hgo2, (below_drewN (balloc hbel _) _).trans hb1⟩
              case measure => simp [intOf]; omega
            · subst hacc0
              obtain ⟨m, hm⟩ : ∃ m, init.length = m := ⟨_, rfl⟩
              rw [List.concat_eq_append] at how hgo hmi
              have hlen1 : (init ++ [q]).length = m + 1 := by simp [hm]
              rw [hlen1] at how hmi
              have hmi2 := hmi.out
              obtain ⟨g, cg, rfl, hg1, hg2, d0, d1, hfz⟩ := own_last hm how
              by_cases hq : q.1 = x
              · have hgo2 : Hid (foldGo (init ++ [(q.1, wrap64 (q.2 + y))]) (S.drop (i + 1)) = G) := by show _ = _; rw [← hgo.out, fold_bump hx hy hq]
                have hst : Hid (∀ (W : World) (u : Int), W.ownsRow w2.heap.size 67 2 (.slice (some ⟨g, 0, none⟩) (m + 1) cg) (m + 1) (ndv (init ++ [q])) → (W.setCell ⟨g, m * 2 + 1, none⟩ (.int .i64 u)).ownsRow w2.heap.size 67 2 (.slice (some ⟨g, 0, none⟩) (m + 1) cg) (m + 1) (ndv (init ++ [(q.1, u)]))) := by
                  intro W u h
                  have := (h.stored (m * 2 + 1) (.int .i64 u)).1
                  rwa [← hm, ndv_bump, hm] at this
                have hlen2 : Hid ((init ++ [(q.1, wrap64 (q.2 + y))]).length = m + 1) := by show _ = _; simp [hm]
                replace hlen1 := hide hlen1
                obtain ⟨q1, q2⟩ := q
                simp only at d0 d1 hq
                subst hq
                clear hy hmi hacc hm
                go_wp2_with fail
                go_quiet (fail)
                go_wp2_with fail
                refine wp_still_tail 11 (by kernel_rfl) (by kernel_rfl) ?_
                intro V hV
                have how3 : V.ownsRow w2.heap.size 67 2 (.slice (some ⟨g, 0, none⟩) (m + 1) cg) (m + 1) (ndv (init ++ [(q1, q2)])) := by rw [hV]; exact how.alloc _
                have hb4 : Below w2.heap.size w2 V := by rw [hV]; exact below_drewN (below_drewN (balloc hbel _) _) _
                have e0 : V.cell? ⟨g, m * 2 + 1, none⟩ = some (.int .i64 q2) := by rw [hV]; exact (World.cell?_alloc_lt _ _ _ hg2).trans d1
                have e1 : V.cell? ⟨wr.heap.size, 1, none⟩ = some (.int .i64 y) := by rw [hV]; exact (Blk.made wr 67 #[.int .i64 q1, .int .i64 y]).cell 1
                have e2 : V.frozen? ⟨g, m * 2 + 1, none⟩ = false := how3.frozenAt _
                have e3 : g < V.heap.size := (how3.lt g rfl).2
                have e4 : wr.heap.size < V.heap.size := by rw [hV]; simp
                replace how3 := hide how3
                clear hV d0 d1 hfz how c0 c1
                simp only [List.take_succ_cons, List.take_zero, List.drop_succ_cons, List.drop_zero]
                have hwm := IntWalk.i64_in (m : Int) ⟨by omega, by omega⟩
                have hwl : (m : Int) < (m : Int) + 1 := by omega
                have hwa := IntWalk.i64_left (q2 + y)
                repeat still_step
                refine wpStill_nil ?_
                go_wp2_with fail
                go_roundw
                case rel => exact ⟨i + 1, init ++ [(q1, wrap64 (q2 + y))], by omega, by go_num, by rw [hlen2.out]; omega, by rw [hlen2.out]; exact hst.out _ _ how3.out, hgo2, hb4.setCell hg1 _⟩
                case measure => simp [intOf]; omega
              · have hgo2 : Hid (foldGo (init ++ [q] ++ [(x, y)]) (S.drop (i + 1)) = G) := by show _ = _; rw [← hgo.out, fold_app hx hy hq]
                have hqf : (q.1 == x) = false := by simpa using hq
                have hlen2 : Hid ((init ++ [q] ++ [(x, y)]).length = m + 1 + 1) := by show _ = _; simp [hm]
                have hnd : Hid (ndv (init ++ [q]) ++ [.int .i64 x, .int .i64 y] = ndv (init ++ [q] ++ [(x, y)])) := (ndv_snoc (init ++ [q]) (x, y)).symm
                replace hlen1 := hide hlen1
                obtain ⟨q1, q2⟩ := q
                simp only at d0 d1 hqf
                clear hy hmi hacc hm hq
                have howk : ∀ (o : Obj) (k : Nat), ((wr.alloc o).drewN k).ownsRow w2.heap.size 67 2 (.slice (some ⟨g, 0, none⟩) (m + 1) cg) (m + 1) (ndv (init ++ [(q1, q2)])) := fun o k => how.alloc o
                replace howk := hide howk
                go_wp2_with fail
                go_quiet (fail)
                go_wp2_with (at_builtin; go_loud (refine wpList_app1 elNode rfl (.tmp 26) (.tmp 28) rfl w2.heap.size _ _ _ [.int .i64 x, .int .i64 y] 67 rfl (howk.out _ _) (show Value.slice (some ⟨wr.heap.size + 1, 0, none⟩) 1 1 = .slice (some ⟨((wr.alloc _).drewN _).heap.size, 0, none⟩) 1 1 from by simp) rfl (nd_ones (x, y)) (by omega) (by have := hbel.size; simp; omega) ?_); intro v1 w1 how1 hb1 hgr1 hat1)
                go_roundw
                case rel => exact ⟨i + 1, init ++ [(q1, q2)] ++ [(x, y)], by omega, by go_num, by rw [hlen2.out]; omega, by rw [hlen2.out, ← hnd.out]; exact how1, hgo2, (below_drewN (balloc hbel _) _).trans hb1⟩
                case measure => simp [intOf]; omega
      · have hres : Hid ((acc, true) = G) := by show _ = _; rw [← hgo.out, List.drop_of_length_le (by rw [hn.out]; omega), fold_nil]
        generalize hm : acc.length = m at *
        replace hm := hide hm
        obtain ⟨Ao, co, rfl⟩ := own_len how
        go_wp2_with fail
        go_ret2
        refine ⟨_, by rw [← hres.out]; rfl, by rw [← hres.out]; exact own_nds (by rw [hm.out]; exact how), bthen hb3 hbel⟩
end Go.Proofs.YteebghoijaaakaaGreat

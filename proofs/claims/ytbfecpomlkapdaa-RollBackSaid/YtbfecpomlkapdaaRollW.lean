/- The walks of layer 6: lists of nodes as slices; their sum, whether they are a roll, a node's weight, whether two are the same. By the prover of this repo. -/
import Derived.Test.YtbfecpomlkapdaaRollM
import Derived.Test.YtbfecpomlkapdaaOwn
import Derived.Test.YtbfecpomlkapdaaTwigR2
import Derived.Test.YtbfecpomlkapdaaTwigW2
import Derived.Laws.StructEq
namespace Go.Proofs.Ytbfecpomlkapdaa
open Go.RowKit
open TwigM RollM

abbrev nv (p : Nd) : Value := .agg #[.int .i64 p.1, .int .i64 p.2]
/-- The cells of a list of nodes. -/
def ndc (l : List Nd) (j : Nat) : Value := .int .i64 (if j % 2 = 0 then (l.getD (j / 2) (0, 0)).1 else (l.getD (j / 2) (0, 0)).2)
def ndv (l : List Nd) : List Value := l.flatMap fun p => [.int .i64 p.1, .int .i64 p.2]
/-- Both parts of each in their type's bounds. -/
def NdWf (l : List Nd) : Prop := ∀ p ∈ l, -9223372036854775808 ≤ p.1 ∧ p.1 ≤ 9223372036854775807 ∧ -9223372036854775808 ≤ p.2 ∧ p.2 ≤ 9223372036854775807

/-- A slice value reads as a list of nodes. -/
def Nds (w : World) (v : Value) (l : List Nd) : Prop := ∃ A c, v = .slice A l.length c ∧ (A = none → l.length = 0) ∧ l.length ≤ c ∧ c ≤ maxLen ∧ Rd w A l.length 2 (ndc l)
section
variable {w w' : World} {v : Value} {l : List Nd}
theorem Nds.kept (h : Nds w v l) (hb : Below w.heap.size w w') : Nds w' v l := by
  obtain ⟨A, c, h1, h2, h3, h4, h5⟩ := h
  exact ⟨A, c, h1, h2, h3, h4, h5.kept hb⟩
theorem Nds.nil (w : World) : Nds w (.slice none 0 0) [] := ⟨none, 0, rfl, fun _ => rfl, Nat.le_refl _, by unfold maxLen; omega, Rd.zero _ _ _ _⟩
end
/-- The cells of element k. -/
theorem rd_at {w : World} {A : Option Addr} {l : List Nd} (h : Rd w A l.length 2 (ndc l)) {k : Nat} (hk : k < l.length) :
    ∃ b off, A = some ⟨b, off, none⟩ ∧ b < w.heap.size ∧ w.cell? ⟨b, off + k * 2, none⟩ = some (.int .i64 l[k].1) ∧ w.cell? ⟨b, off + k * 2 + 1, none⟩ = some (.int .i64 l[k].2) := by
  obtain ⟨b, off, e, hb, hc⟩ := h (by omega)
  refine ⟨b, off, e, hb, ?_, ?_⟩
  · have := hc (k * 2) (by omega)
    rw [this]
    simp [ndc, hk]
  · have := hc (k * 2 + 1) (by omega)
    rw [Nat.add_assoc, this]
    have h1 : (k * 2 + 1) % 2 = 1 := by omega
    have h2 : (k * 2 + 1) / 2 = k := by omega
    simp [ndc, h1, h2, hk]

theorem tot_nil (n : Int) : totGo n [] = (n, true) := rfl
theorem tot_bad {n : Int} {p : Nd} {l : List Nd} (h : p.2 < 0 ∨ 72057594037927935 - n < p.2) : totGo n (p :: l) = (0, false) := if_pos h
theorem tot_on {n : Int} {p : Nd} {l : List Nd} (h : ¬ (p.2 < 0 ∨ 72057594037927935 - n < p.2)) : totGo n (p :: l) = totGo (n + p.2) l := if_neg h

theorem reckon_counts (a b : Int) (w : World) : Calls Try.prog 72 #[.int .i64 a, .int .i64 b] w fun e w' => e = .returned (.bool (decide (0 ≤ a ∧ 0 ≤ b))) ∧ w = w' := by
  by_cases h : 0 ≤ a
  · by_cases h2 : 0 ≤ b
    · rw [decide_eq_true ⟨h, h2⟩]
      go_enter Try.func72, Try.ntmps72
      go_wp2_with fail
      go_ret
      exact ⟨rfl, rfl⟩
    · rw [decide_eq_false (fun k => h2 k.2)]
      go_enter Try.func72, Try.ntmps72
      go_wp2_with fail
      go_ret
      exact ⟨rfl, rfl⟩
  · rw [decide_eq_false (fun k => h k.1)]
    go_enter Try.func72, Try.ntmps72
    go_wp2_with fail
    go_ret
    exact ⟨rfl, rfl⟩
def addF (a b : Int) : Int × Bool := if 0 ≤ a ∧ 0 ≤ b ∧ a ≤ 9223372036854775807 - b then (a + b, true) else (0, false)
theorem reckon_add (a b : Int) (w : World) (ha : a ≤ 9223372036854775807) (hb : b ≤ 9223372036854775807) : Calls Try.prog 66 #[.int .i64 a, .int .i64 b] w fun e w' => e = .returned (nb (addF a b)) ∧ w = w' := by
  have hc := fun W => reckon_counts a b W
  unfold addF
  by_cases h : 0 ≤ a ∧ 0 ≤ b
  · rw [decide_eq_true h] at hc
    replace hc := hide hc
    obtain ⟨h0, h1⟩ := h
    by_cases h2 : a ≤ 9223372036854775807 - b
    · rw [if_pos ⟨h0, h1, h2⟩]
      go_enter Try.func66, Try.ntmps66
      go_wp2_with (go_at_call 72; refine (hc.out _).mono ?_; rintro e w1 ⟨rfl, rfl⟩)
      go_ret2
      exact ⟨rfl, rfl⟩
    · rw [if_neg (fun k => h2 k.2.2)]
      go_enter Try.func66, Try.ntmps66
      go_wp2_with (go_at_call 72; refine (hc.out _).mono ?_; rintro e w1 ⟨rfl, rfl⟩)
      go_ret2
      exact ⟨rfl, rfl⟩
  · rw [decide_eq_false h] at hc
    replace hc := hide hc
    rw [if_neg (fun k => h ⟨k.1, k.2.1⟩)]
    clear h
    go_enter Try.func66, Try.ntmps66
    go_wp2_with (go_at_call 72; refine (hc.out _).mono ?_; rintro e w1 ⟨rfl, rfl⟩)
    go_ret2
    exact ⟨rfl, rfl⟩

set_option maxRecDepth 100000 in
theorem roll_total (A : Option Addr) (c : Nat) (l : List Nd) (w : World) (hr : Rd w A l.length 2 (ndc l)) (hl : l.length ≤ 1000000) (hwf : NdWf l) :
    Calls Try.prog 46 #[.slice A l.length c] w fun e w' => e = .returned (nb (totF l)) ∧ Below w.heap.size w w' := by
  unfold totF
  generalize hG : totGo 0 l = G
  replace hG := hide hG
  obtain ⟨n, hn⟩ : ∃ n, Hid (l.length = n) := ⟨_, rfl⟩
  rw [hn.out] at hl
  have hrn : Hid (Rd w A l.length 2 (ndc l)) := hr
  rw [hn.out]
  clear hr
  go_enter Try.func46, Try.ntmps46
  go_wp2_with fail
  go_loopw [4, 11] (fun s k wr => ∃ (t : Int) (i : Nat), i ≤ n ∧ 0 ≤ t ∧ t ≤ 72057594037927935 ∧ s = .int .i64 t ∧ k = .int .i64 i ∧ Hid (totGo t (l.drop i) = G) ∧ Below w.heap.size w wr) (fun _ k _ => n - (intOf k).toNat)
  case atStart => exact ⟨0, 0, by omega, by omega, by omega, rfl, rfl, by show _ = _; rw [List.drop_zero, hG.out], Below.refl _ _⟩
  case round =>
    obtain ⟨t, i, hi, ht0, ht1, rfl, rfl, hgo, hbel⟩ := hrel
    by_cases hlt : i < n
    · have hil : i < l.length := by rw [hn.out]; exact hlt
      obtain ⟨b, off, rfl, hb, c0, c1⟩ := rd_at (hrn.out.of_below (Nat.le_refl _) hbel) hil
      have hw := hwf l[i] (List.getElem_mem hil)
      rw [List.drop_eq_getElem_cons hil] at hgo
      generalize l[i] = p at *
      obtain ⟨x, y⟩ := p
      simp only at c0 c1 hw
      obtain ⟨_, _, hy0, hy1⟩ := hw
      have hA := fun W => reckon_add t y W (by omega) hy1
      by_cases hbad : y < 0 ∨ 72057594037927935 - t < y
      · have hres : Hid ((0, false) = G) := by rw [← hgo.out, tot_bad hbad]; rfl
        by_cases hy : 0 ≤ y
        · have hF : addF t y = (t + y, true) ∨ addF t y = (0, false) := by
            unfold addF; by_cases h : 0 ≤ t ∧ 0 ≤ y ∧ t ≤ 9223372036854775807 - y
            · exact .inl (if_pos h)
            · exact .inr (if_neg h)
          have hbig : 72057594037927935 < t + y := by omega
          rcases hF with hF | hF
          all_goals
            rw [hF] at hA
            replace hA := hide hA
            clear hF hbad
            go_wp2_with (go_at_call 66; refine (hA.out _).mono ?_; rintro e w1 ⟨rfl, rfl⟩)
            go_ret2
            exact ⟨by rw [← hres.out]; rfl, balloc hbel _⟩
        · have hF : addF t y = (0, false) := if_neg (fun k => hy k.2.1)
          rw [hF] at hA
          replace hA := hide hA
          clear hF hbad
          go_wp2_with (go_at_call 66; refine (hA.out _).mono ?_; rintro e w1 ⟨rfl, rfl⟩)
          go_ret2
          exact ⟨by rw [← hres.out]; rfl, balloc hbel _⟩
      · have hgo2 : Hid (totGo (t + y) (l.drop (i + 1)) = G) := by rw [← hgo.out, tot_on hbad]; rfl
        have hF : addF t y = (t + y, true) := if_pos (by omega)
        rw [hF] at hA
        replace hA := hide hA
        have hle : t + y ≤ 72057594037927935 := by omega
        have hge : 0 ≤ t + y := by omega
        clear hF hbad
        go_wp2_with (go_at_call 66; refine (hA.out _).mono ?_; rintro e w1 ⟨rfl, rfl⟩)
        go_roundw
        case rel => exact ⟨t + y, i + 1, by omega, hge, hle, rfl, by go_num, hgo2, balloc hbel _⟩
        case measure => simp [intOf]; omega
    · have hres : Hid ((t, true) = G) := by rw [← hgo.out, List.drop_of_length_le (by rw [hn.out]; omega)]; rfl
      go_wp2_with fail
      go_ret2
      exact ⟨by rw [← hres.out]; rfl, hbel⟩
end Go.Proofs.Ytbfecpomlkapdaa

/- The walks of layer 28, on: Kids, Way. By the prover of this repo. -/
import Derived.Test.YtcpakoobgcdekaaDoorGroveG
namespace Go.Proofs.YtcpakoobgcdekaaDoor
open Go.RowKit Go.Shelf

set_option maxRecDepth 100000 in
theorem grove_kids2 (A : Option Addr) (c : Nat) (p : List Int) (i : Int) (w : World) (hr : Rd w A p.length 1 (ic p)) (hn : p.length ≤ 1000) :
    Calls Tryd.prog 23 #[.slice A p.length c, .int .i64 i] w fun e w' => (∃ s : Nat, e = .returned (.tuple #[.int .u64 s, .int .i64 (wrongF p i)]) ∧ s < 281474976710656 ∧ ∀ j, s.testBit j = (decide (wrongF p i = 0) && decide (j ∈ kidsL p i))) ∧ Below w.heap.size w w' := by
  have h1 := hide (grove_wrong A c p i w hr hn)
  by_cases h0 : wrongF p i = 0
  · obtain ⟨hb, hi0, hi9⟩ := wrong_ok h0
    obtain ⟨hWy, _, h48, hro⟩ := ways_of_right hb
    have h2 := hide (fun W (h : Below w.heap.size w W) => grove_kids A c p i W (hr.of_below (Nat.le_refl _) h) h48)
    have hfin := hide (fun (s : Nat) (h : KidSet p i p.length s) (j : Nat) => show s.testBit j = (decide (wrongF p i = 0) && decide (j ∈ kidsL p i)) by rw [h.2, decide_eq_true h0, Bool.true_and, Bool.eq_iff_iff]; simp [kidsL_mem])
    rw [h0] at h1 ⊢
    rw [h0] at hfin
    clear hr h0
    go_enter Tryd.func23, Tryd.ntmps23
    go_wp2_with (first
      | (go_at_call 53; refine h1.out.mono ?_; rintro e w1 ⟨rfl, hb1⟩; have h4 := hide (h2.out w1 hb1); have hb1 := hide hb1)
      | (go_at_call 59; refine h4.out.mono ?_; rintro e w2 ⟨rfl, s, rfl, hs⟩))
    go_ret2
    exact ⟨⟨s, rfl, hs.1, hfin.out s hs⟩, hb1.out⟩
  · have hfin : Hid (∀ j, (0 : Nat).testBit j = (decide (wrongF p i = 0) && decide (j ∈ kidsL p i))) := fun j => by rw [decide_eq_false h0]; simp
    generalize wrongF p i = q at *
    have hq : (q == 0) = false := by simpa using h0
    have hq2 : (q != 0) = true := by simpa using h0
    clear hr
    go_enter Tryd.func23, Tryd.ntmps23
    go_wp2_with (go_at_call 53; refine h1.out.mono ?_; rintro e w1 ⟨rfl, hb1⟩; have hb1 := hide hb1)
    go_ret2
    exact ⟨⟨0, rfl, by omega, hfin.out⟩, hb1.out⟩
def wayV (p : List Int) (i : Int) : List Int := if wrongF p i = 0 then (upF p 48 i).getD [] else []
set_option maxRecDepth 100000 in
theorem grove_way (A : Option Addr) (c : Nat) (p : List Int) (i : Int) (w : World) (hr : Rd w A p.length 1 (ic p)) (hn : p.length ≤ 1000) :
    Calls Tryd.prog 25 #[.slice A p.length c, .int .i64 i] w fun e w' => ∃ v, e = .returned (.tuple #[v, .int .i64 (wrongF p i)]) ∧ Its w' v (wayV p i) ∧ Below w.heap.size w w' := by
  have h1 := hide (grove_wrong A c p i w hr hn)
  unfold wayV
  by_cases h0 : wrongF p i = 0
  · rw [if_pos h0]
    obtain ⟨hb, hi0, hi9⟩ := wrong_ok h0
    obtain ⟨i, rfl⟩ := Int.eq_ofNat_of_zero_le hi0
    obtain ⟨hWy, _, h48, hro⟩ := ways_of_right hb
    have h2 := fun W (h : Below w.heap.size w W) => grove_up A c p i W (hr.of_below (Nat.le_refl _) h) hn (by omega)
    rw [upF_48 h48 hi0 hi9] at h2
    have h2 := hide h2
    rw [h0] at h1 ⊢
    generalize upF p 48 (i : Int) = U at *
    clear hr h0
    go_enter Tryd.func25, Tryd.ntmps25
    go_wp2_with (first
      | (go_at_call 53; refine h1.out.mono ?_; rintro e w1 ⟨rfl, hb1⟩; have h4 := hide (h2.out w1 hb1); have hb1 := hide hb1)
      | (go_at_call 57; refine h4.out.mono ?_; rintro e w2 ⟨v, rfl, hv, hb2⟩; have hb2 := hide hb2; have hv := hide hv))
    go_ret2
    exact ⟨_, rfl, hv.out, bthen hb1.out hb2.out⟩
  · rw [if_neg h0]
    generalize wrongF p i = q at *
    have hq : (q == 0) = false := by simpa using h0
    have hq2 : (q != 0) = true := by simpa using h0
    clear hr
    go_enter Tryd.func25, Tryd.ntmps25
    go_wp2_with (go_at_call 53; refine h1.out.mono ?_; rintro e w1 ⟨rfl, hb1⟩; have hb1 := hide hb1)
    go_ret2
    exact ⟨_, rfl, Its.nil _, hb1.out⟩
end Go.Proofs.YtcpakoobgcdekaaDoor

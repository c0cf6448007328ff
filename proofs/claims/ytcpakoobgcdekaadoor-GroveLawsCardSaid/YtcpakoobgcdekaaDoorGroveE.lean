/- The walks of layer 28, on: Height, the reference's Kids, ahead, Order, Height. By the prover of this repo. -/
import Derived.Test.YtcpakoobgcdekaaDoorGroveH
import Derived.Lib.MinMax
namespace Go.Proofs.YtcpakoobgcdekaaDoor
open Go.RowKit Go.Shelf

/-- How many sensors are on the longest way of the first k. -/
def heightG (p : List Int) : Nat → Nat
  | 0 => 0
  | k + 1 => max (heightG p k) ((upF p 48 (k : Int)).getD []).length
def heightV (p : List Int) : Int := if rightF p = true then (heightG p p.length : Int) else 0
set_option maxRecDepth 100000 in
theorem grove_height (A : Option Addr) (c : Nat) (p : List Int) (w : World) (hr : Rd w A p.length 1 (ic p)) (hn : p.length ≤ 1000) :
    Calls Tryd.prog 17 #[.slice A p.length c] w fun e w' => e = .returned (.tuple #[.int .i64 (heightV p), .int .i64 (treeE p)]) ∧ Below w.heap.size w w' := by
  have h1 := hide (grove_right A c p w hr hn)
  unfold heightV treeE
  cases hb : rightF p
  · rw [hb] at h1
    simp only [Bool.false_eq_true, if_false]
    go_enter Tryd.func17, Tryd.ntmps17
    go_wp2_with (go_at_call 19; refine h1.out.mono ?_; rintro e w1 ⟨rfl, hb1⟩; have hb1 := hide hb1)
    go_ret2
    exact ⟨rfl, hb1.out⟩
  · rw [hb] at h1
    simp only [if_true]
    obtain ⟨hWy, _, h48, _⟩ := ways_of_right hb
    have hup := hide (fun (W : World) (hb : Below w.heap.size w W) (i : Nat) (hi : i < p.length) => grove_up A c p i W (hr.of_below (Nat.le_refl _) hb) hn hi)
    have h4 := hide (fun (i : Nat) (hi : i < p.length) => upF_48 h48 (i := (i : Int)) (by omega) (by omega))
    have hst : ∀ k : Nat, heightG p (k + 1) = max (heightG p k) ((upF p 48 (k : Int)).getD []).length := fun k => rfl
    have hst := hide hst
    have h00 : Hid (heightG p 0 = 0) := rfl
    generalize heightG p = H at *
    obtain ⟨n, hnn⟩ : ∃ n, Hid (p.length = n) := ⟨_, rfl⟩
    rw [hnn.out] at hn h1 hup h4 ⊢
    clear hr hWy
    go_enter Tryd.func17, Tryd.ntmps17
    go_wp2_with (go_at_call 19; refine h1.out.mono ?_; rintro e w1 ⟨rfl, hb1⟩; have hb1 := hide hb1)
    go_loopw [4, 13] (fun r x wr => ∃ (k : Nat), x = .int .i64 k ∧ r = .int .i64 (H k : Int) ∧ k ≤ n ∧ Below w.heap.size w wr) (fun _ x _ => n - (intOf x).toNat)
    case atStart => exact ⟨0, rfl, by rw [h00.out]; rfl, Nat.zero_le _, hb1.out⟩
    case round =>
      obtain ⟨k, rfl, rfl, hk, hbel⟩ := hrel
      by_cases hlt : k < n
      · have hu := hup.out wr hbel k hlt
        rw [h4.out k hlt] at hu
        have hs := hst.out k
        generalize (upF p 48 (k : Int)).getD [] = L at *
        generalize (upF p 48 (k : Int)).isSome = q at *
        have hu := hide hu
        have hs := hide hs
        have hbel := hide hbel
        go_wp2_with (go_at_call 57; refine hu.out.mono ?_; rintro e w2 ⟨v, rfl, ⟨A2, c2, rfl, _⟩, hb2⟩; have hb2 := hide hb2)
        go_roundw
        case rel => exact ⟨k + 1, by go_num, by rw [hs.out]; congr 1; omega, by omega, hbel.out.trans (hb2.out.mono (by have := hbel.out.size; omega))⟩
        case measure => simp [intOf]; omega
      · obtain rfl : k = n := by omega
        have hbel := hide hbel
        go_wp2_with fail
        go_ret2
        exact ⟨rfl, hbel.out⟩
set_option maxRecDepth 100000 in
theorem ref28_height (A : Option Addr) (c : Nat) (p : List Int) (w : World) (hr : Rd w A p.length 1 (ic p)) (hn : p.length ≤ 1000) :
    Calls Tryd.prog 22 #[.slice A p.length c] w fun e w' => e = .returned (.int .i64 (heightG p p.length)) ∧ Below w.heap.size w w' := by
  have hup := hide (fun (W : World) (hb : Below w.heap.size w W) (i : Nat) (hi : i < p.length) => ref_way A c p i W (hr.of_below (Nat.le_refl _) hb) hn hi)
  have hst : ∀ k : Nat, heightG p (k + 1) = max (heightG p k) ((upF p 48 (k : Int)).getD []).length := fun k => rfl
  have hst := hide hst
  have h00 : Hid (heightG p 0 = 0) := rfl
  generalize heightG p = H at *
  obtain ⟨n, hnn⟩ : ∃ n, Hid (p.length = n) := ⟨_, rfl⟩
  rw [hnn.out] at hn hup ⊢
  clear hr
  go_enter Tryd.func22, Tryd.ntmps22
  go_wp2_with fail
  go_loopw [3, 4] (fun r x wr => ∃ (k : Nat), x = .int .i64 k ∧ r = .int .i64 (H k : Int) ∧ k ≤ n ∧ Below w.heap.size w wr) (fun _ x _ => n - (intOf x).toNat)
  case atStart => exact ⟨0, rfl, by rw [h00.out]; rfl, Nat.zero_le _, Below.refl _ _⟩
  case round =>
    obtain ⟨k, rfl, rfl, hk, hbel⟩ := hrel
    by_cases hlt : k < n
    · have hu := hup.out wr hbel k hlt
      have hs := hst.out k
      generalize (upF p 48 (k : Int)).getD [] = L at *
      generalize (upF p 48 (k : Int)).isSome = q at *
      obtain ⟨h, hh⟩ : ∃ h, Hid (H k = h) := ⟨_, rfl⟩
      obtain ⟨m, hm⟩ : ∃ m, Hid (L.length = m) := ⟨_, rfl⟩
      rw [hh.out, hm.out] at hs
      rw [hh.out]
      have hu := hide hu
      have hbel := hide hbel
      by_cases hgt : h < m
      · have hs : Hid (H (k + 1) = m) := by show _ = _; omega
        go_wp2_with (go_at_call 26; refine hu.out.mono ?_; rintro e w2 ⟨v, rfl, ⟨A2, c2, rfl, _⟩, hb2⟩; rw [hm.out]; have hb2 := hide hb2)
        go_roundw
        case rel => exact ⟨k + 1, by go_num, by rw [hs.out], by omega, hbel.out.trans (hb2.out.mono (by have := hbel.out.size; omega))⟩
        case measure => simp [intOf]; omega
      · have hs : Hid (H (k + 1) = h) := by show _ = _; omega
        go_wp2_with (go_at_call 26; refine hu.out.mono ?_; rintro e w2 ⟨v, rfl, ⟨A2, c2, rfl, _⟩, hb2⟩; rw [hm.out]; have hb2 := hide hb2)
        go_roundw
        case rel => exact ⟨k + 1, by go_num, by rw [hs.out], by omega, hbel.out.trans (hb2.out.mono (by have := hbel.out.size; omega))⟩
        case measure => simp [intOf]; omega
    · obtain rfl : k = n := by omega
      have hbel := hide hbel
      go_wp2_with fail
      go_ret
      exact ⟨rfl, hbel.out⟩
end Go.Proofs.YtcpakoobgcdekaaDoor

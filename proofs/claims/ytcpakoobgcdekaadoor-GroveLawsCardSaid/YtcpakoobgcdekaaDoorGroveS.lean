/- The walks of layer 28, on: the reference's Right; the first of a list; a sensor's children. By the prover of this repo. -/
import Derived.Test.YtcpakoobgcdekaaDoorGroveR
namespace Go.Proofs.YtcpakoobgcdekaaDoor
open Go.RowKit

set_option maxRecDepth 100000 in
set_option maxHeartbeats 1000000 in
theorem ref28_right (A : Option Addr) (c : Nat) (p : List Int) (w : World) (hr : Rd w A p.length 1 (ic p)) (hn : p.length ≤ 1000) :
    Calls Tryd.prog 18 #[.slice A p.length c] w fun e w' => e = .returned (.bool (rightF p)) ∧ Below w.heap.size w w' := by
  by_cases h1 : 1 ≤ p.length ∧ p.length ≤ 48
  · have hF : Hid (rightF p = (okG p p.length && decide (rootsF p = 1))) := by show _ = _; unfold rightF; rw [decide_eq_true h1, Bool.true_and]
    have hup := hide (fun (W : World) (hb : Below w.heap.size w W) (i : Nat) (hi : i < p.length) => ref_way A c p i W (hr.of_below (Nat.le_refl _) hb) hn hi)
    have hall := hide (rootG_all p)
    have hok := hide (fun k => okG_succ p k)
    have hof := hide (fun k m => okG_false (p := p) (k := k) (m := m))
    have hrs := hide (rootG_succ p)
    have hrl := hide (rootG_le p)
    obtain ⟨n, hnn⟩ : ∃ n, Hid (p.length = n) := ⟨_, rfl⟩
    have hrH := hide hr
    rw [hnn.out] at hn h1 hF hall hup hrs ⊢
    obtain ⟨h1, h2⟩ := h1
    clear hr
    go_enter Tryd.func18, Tryd.ntmps18
    go_wp2_with fail
    go_loopw [3, 4] (fun r x wr => ∃ (k : Nat), x = .int .i64 k ∧ r = .int .i64 (rootG p k : Int) ∧ k ≤ n ∧ Hid (okG p k = true) ∧ Below w.heap.size w wr) (fun _ x _ => n - (intOf x).toNat)
    case atStart => exact ⟨0, rfl, rfl, Nat.zero_le _, rfl, Below.refl _ _⟩
    case round =>
      obtain ⟨k, rfl, rfl, hk, hokk, hbel⟩ := hrel
      by_cases hlt : k < n
      · have hkl : k < p.length := by rw [hnn.out]; exact hlt
        obtain ⟨b, off, rfl, hb, hc⟩ := it_at (hrH.out.of_below (Nat.le_refl _) hbel) hkl
        have hu := hup.out wr hbel k hlt
        have hs := hrs.out k hlt
        have hl := hrl.out k
        have e : p.getD k 0 = p[k] := by simp [hkl]
        rw [e] at hs
        have hoks := hok.out k
        rw [hokk.out, Bool.true_and] at hoks
        generalize p[k] = y at *
        obtain ⟨r, hrr⟩ : ∃ r, Hid (rootG p k = r) := ⟨_, rfl⟩
        rw [hrr.out] at hs hl ⊢
        have hbel := hide hbel
        cases hq : upF p 48 (k : Int) with
        | none =>
          rw [hq] at hu hoks
          have hres : Hid (rightF p = false) := by show _ = _; rw [hF.out, hof.out (k + 1) n (by rw [hoks]; rfl) (by omega)]; rfl
          have hu := hide hu
          clear hoks hs e
          by_cases hy : y = -1
          · subst hy
            go_wp2_with (go_at_call 26; refine hu.out.mono ?_; rintro e w1 ⟨v, rfl, _, hb1⟩; have hb1 := hide hb1)
            go_ret
            exact ⟨by rw [hres.out]; rfl, hbel.out.trans (hb1.out.mono (by have := hbel.out.size; omega))⟩
          · go_wp2_with (go_at_call 26; refine hu.out.mono ?_; rintro e w1 ⟨v, rfl, _, hb1⟩; have hb1 := hide hb1)
            go_ret
            exact ⟨by rw [hres.out]; rfl, hbel.out.trans (hb1.out.mono (by have := hbel.out.size; omega))⟩
        | some wy =>
          rw [hq] at hu hoks
          have hoks : Hid (okG p (k + 1) = true) := hoks
          have hu := hide hu
          by_cases hy : y = -1
          · subst hy
            rw [if_pos rfl] at hs
            have hs := hide hs
            clear e
            go_wp2_with (go_at_call 26; refine hu.out.mono ?_; rintro e w1 ⟨v, rfl, _, hb1⟩; have hb1 := hide hb1)
            go_roundw
            case rel => exact ⟨k + 1, by go_num, by rw [hs.out]; go_num, by omega, hoks, hbel.out.trans (hb1.out.mono (by have := hbel.out.size; omega))⟩
            case measure => simp [intOf]; omega
          · rw [if_neg hy] at hs
            have hs := hide hs
            clear e
            go_wp2_with (go_at_call 26; refine hu.out.mono ?_; rintro e w1 ⟨v, rfl, _, hb1⟩; have hb1 := hide hb1)
            go_roundw
            case rel => exact ⟨k + 1, by go_num, by rw [hs.out]; rfl, by omega, hoks, hbel.out.trans (hb1.out.mono (by have := hbel.out.size; omega))⟩
            case measure => simp [intOf]; omega
      · obtain rfl : k = n := by omega
        have hres : Hid (rightF p = ((rootG p k : Int) == 1)) := by
          show _ = _
          rw [hF.out, hokk.out, hall.out, Bool.true_and, Bool.eq_iff_iff]
          simp
          omega
        have hbel := hide hbel
        go_wp2_with fail
        go_ret
        exact ⟨by rw [hres.out]; rfl, hbel.out⟩
  · have hF : Hid (rightF p = false) := by show _ = _; unfold rightF; rw [decide_eq_false h1]; rfl
    obtain ⟨n, hnn⟩ : ∃ n, Hid (p.length = n) := ⟨_, rfl⟩
    rw [hnn.out] at hn h1 ⊢
    clear hr
    by_cases h0 : n < 1
    · clear h1
      go_enter Tryd.func18, Tryd.ntmps18
      go_wp2_with fail
      go_ret
      exact ⟨by rw [hF.out]; rfl, Below.refl _ _⟩
    · have h2 : 48 < n := by omega
      clear h1
      go_enter Tryd.func18, Tryd.ntmps18
      go_wp2_with fail
      go_ret
      exact ⟨by rw [hF.out]; rfl, Below.refl _ _⟩

/-- Where a value is for the first time. -/
def First (p : List Int) (x : Int) (k : Nat) : Prop := k < p.length ∧ p.getD k 0 = x ∧ ∀ j, j < k → p.getD j 0 ≠ x
theorem first_of_roots {p : List Int} (h : rootsF p = 1) : ∃ k, First p (-1) k := by
  have h0 : ∃ x ∈ p, x == -1 := by
    refine Classical.byContradiction fun hn => ?_
    have : p.filter (fun x => x == -1) = [] := List.filter_eq_nil_iff.2 fun a ha hb => hn ⟨a, ha, hb⟩
    unfold rootsF at h
    rw [this] at h
    cases h
  have hl := List.findIdx_lt_length_of_exists h0
  refine ⟨p.findIdx (fun x => x == -1), hl, ?_, fun j hj => ?_⟩
  · have := List.findIdx_getElem (w := hl)
    rw [List.getD_eq_getElem?_getD, List.getElem?_eq_getElem hl]
    simpa using this
  · have := List.not_of_lt_findIdx hj
    rw [List.getD_eq_getElem?_getD, List.getElem?_eq_getElem (by omega)]
    simpa using this
set_option maxRecDepth 100000 in
theorem index_c (A : Option Addr) (c : Nat) (p : List Int) (x : Int) (k : Nat) (w : World) (hr : Rd w A p.length 1 (ic p)) (hn : p.length ≤ 1000) (hk : First p x k) :
    Calls Tryd.prog 55 #[.slice A p.length c, .int .i64 x] w fun e w' => e = .returned (.int .i64 k) ∧ Below w.heap.size w w' := by
  obtain ⟨k1, k2, k3⟩ := hk
  have k3 := hide k3
  obtain ⟨n, hnn⟩ : ∃ n, Hid (p.length = n) := ⟨_, rfl⟩
  have hrH := hide hr
  rw [hnn.out] at hn k1 ⊢
  clear hr
  go_enter Tryd.func55, Tryd.ntmps55
  go_wp2_with fail
  go_loopw [8] (fun y wr => ∃ (i : Nat), y = .int .i64 i ∧ i ≤ k ∧ Below w.heap.size w wr) (fun y _ => n - (intOf y).toNat)
  case atStart => exact ⟨0, rfl, Nat.zero_le _, Below.refl _ _⟩
  case round =>
    obtain ⟨i, rfl, hi, hbel⟩ := hrel
    have hil : i < p.length := by rw [hnn.out]; omega
    have hin : i < n := by omega
    obtain ⟨b, off, rfl, hb, hc⟩ := it_at (hrH.out.of_below (Nat.le_refl _) hbel) hil
    have e : p.getD i 0 = p[i] := by simp [hil]
    have hbel := hide hbel
    by_cases hik : i = k
    · subst hik
      rw [k2] at e
      rw [← e] at hc
      clear k3 e
      go_wp2_with fail
      go_ret
      exact ⟨rfl, hbel.out⟩
    · have hne := k3.out i (by omega)
      rw [e] at hne
      clear k2 e
      generalize p[i] = y at *
      have hne1 : (x == y) = false := by simp; omega
      have hne2 : (y == x) = false := by simp; omega
      go_wp2_with fail
      go_roundw
      case rel => exact ⟨i + 1, by go_num, by omega, hbel.out⟩
      case measure => simp [intOf]; omega
set_option maxRecDepth 100000 in
theorem ref28_root (A : Option Addr) (c : Nat) (p : List Int) (k : Nat) (w : World) (hr : Rd w A p.length 1 (ic p)) (hn : p.length ≤ 1000) (hk : First p (-1) k) :
    Calls Tryd.prog 20 #[.slice A p.length c] w fun e w' => e = .returned (.int .i64 k) ∧ Below w.heap.size w w' := by
  obtain ⟨k1, k2, k3⟩ := hk
  have k3 := hide k3
  obtain ⟨n, hnn⟩ : ∃ n, Hid (p.length = n) := ⟨_, rfl⟩
  have hrH := hide hr
  rw [hnn.out] at hn k1 ⊢
  clear hr
  go_enter Tryd.func20, Tryd.ntmps20
  go_wp2_with fail
  go_loopw [3] (fun y wr => ∃ (i : Nat), y = .int .i64 i ∧ i ≤ k ∧ Below w.heap.size w wr) (fun y _ => n - (intOf y).toNat)
  case atStart => exact ⟨0, rfl, Nat.zero_le _, Below.refl _ _⟩
  case round =>
    obtain ⟨i, rfl, hi, hbel⟩ := hrel
    have hil : i < p.length := by rw [hnn.out]; omega
    have hin : i < n := by omega
    obtain ⟨b, off, rfl, hb, hc⟩ := it_at (hrH.out.of_below (Nat.le_refl _) hbel) hil
    have e : p.getD i 0 = p[i] := by simp [hil]
    have hbel := hide hbel
    by_cases hik : i = k
    · subst hik
      rw [k2] at e
      rw [← e] at hc
      clear k3 e
      go_wp2_with fail
      go_ret
      exact ⟨rfl, hbel.out⟩
    · have hne := k3.out i (by omega)
      rw [e] at hne
      clear k2 e
      generalize p[i] = y at *
      go_wp2_with fail
      go_roundw
      case rel => exact ⟨i + 1, by go_num, by omega, hbel.out⟩
      case measure => simp [intOf]; omega

/-- What nothing can be told of a sensor for. -/
def wrongF (p : List Int) (i : Int) : Int := if rightF p = true then (if i < 0 ∨ (p.length : Int) ≤ i then 16 else 0) else 15
set_option maxRecDepth 100000 in
theorem grove_wrong (A : Option Addr) (c : Nat) (p : List Int) (i : Int) (w : World) (hr : Rd w A p.length 1 (ic p)) (hn : p.length ≤ 1000) :
    Calls Tryd.prog 53 #[.slice A p.length c, .int .i64 i] w fun e w' => e = .returned (.int .i64 (wrongF p i)) ∧ Below w.heap.size w w' := by
  have hR := hide (grove_right A c p w hr hn)
  unfold wrongF
  obtain ⟨n, hnn⟩ : ∃ n, Hid (p.length = n) := ⟨_, rfl⟩
  rw [hnn.out] at hn hR ⊢
  clear hr
  cases hb : rightF p
  · rw [hb] at hR
    simp only [Bool.false_eq_true, if_false]
    go_enter Tryd.func53, Tryd.ntmps53
    go_wp2_with (go_at_call 19; refine hR.out.mono ?_; rintro e w1 ⟨rfl, hb1⟩; have hb1 := hide hb1)
    go_ret
    exact ⟨rfl, hb1.out⟩
  · rw [hb] at hR
    simp only [if_true]
    by_cases h0 : i < 0
    · rw [if_pos (Or.inl h0)]
      go_enter Tryd.func53, Tryd.ntmps53
      go_wp2_with (go_at_call 19; refine hR.out.mono ?_; rintro e w1 ⟨rfl, hb1⟩; have hb1 := hide hb1)
      go_ret
      exact ⟨rfl, hb1.out⟩
    · by_cases h1 : (n : Int) ≤ i
      · rw [if_pos (Or.inr h1)]
        go_enter Tryd.func53, Tryd.ntmps53
        go_wp2_with (go_at_call 19; refine hR.out.mono ?_; rintro e w1 ⟨rfl, hb1⟩; have hb1 := hide hb1)
        go_ret
        exact ⟨rfl, hb1.out⟩
      · rw [if_neg (by omega)]
        go_enter Tryd.func53, Tryd.ntmps53
        go_wp2_with (go_at_call 19; refine hR.out.mono ?_; rintro e w1 ⟨rfl, hb1⟩; have hb1 := hide hb1)
        go_ret
        exact ⟨rfl, hb1.out⟩
end Go.Proofs.YtcpakoobgcdekaaDoor

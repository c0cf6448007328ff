/- The walks of layer 28: whether parents are a tree; the root; the children of a sensor. By the prover of this repo. -/
import Derived.Test.YtcpakoobgcdekaaDoorGroveW
import Derived.Test.YtcpakoobgcdekaaDoorCrewB
namespace Go.Proofs.YtcpakoobgcdekaaDoor
open Go.RowKit

set_option maxRecDepth 100000 in
set_option maxHeartbeats 1000000 in
theorem grove_right (A : Option Addr) (c : Nat) (p : List Int) (w : World) (hr : Rd w A p.length 1 (ic p)) (hn : p.length ≤ 1000) :
    Calls Tryd.prog 19 #[.slice A p.length c] w fun e w' => e = .returned (.bool (rightF p)) ∧ Below w.heap.size w w' := by
  by_cases h1 : 1 ≤ p.length ∧ p.length ≤ 48
  · have hF : Hid (rightF p = (okG p p.length && decide (rootsF p = 1))) := by show _ = _; unfold rightF; rw [decide_eq_true h1, Bool.true_and]
    have hup := hide (fun (W : World) (hb : Below w.heap.size w W) (i : Nat) (hi : i < p.length) => grove_up A c p i W (hr.of_below (Nat.le_refl _) hb) hn hi)
    have h48 := hide (fun (i : Nat) (hi : i < p.length) => upF_48 h1.2 (i := (i : Int)) (by omega) (by omega))
    have hall := hide (rootG_all p)
    have hok := hide (fun k => okG_succ p k)
    have hof := hide (fun k m => okG_false (p := p) (k := k) (m := m))
    have hrs := hide (rootG_succ p)
    have hrl := hide (rootG_le p)
    obtain ⟨n, hnn⟩ : ∃ n, Hid (p.length = n) := ⟨_, rfl⟩
    have hrH := hide hr
    rw [hnn.out] at hn h1 hF hall h48 hup hrs ⊢
    obtain ⟨h1, h2⟩ := h1
    clear hr
    go_enter Tryd.func19, Tryd.ntmps19
    go_wp2_with fail
    go_loopw [3, 18] (fun r x wr => ∃ (k : Nat), x = .int .i64 k ∧ r = .int .i64 (rootG p k : Int) ∧ k ≤ n ∧ Hid (okG p k = true) ∧ Below w.heap.size w wr) (fun _ x _ => n - (intOf x).toNat)
    case atStart => exact ⟨0, rfl, rfl, Nat.zero_le _, rfl, Below.refl _ _⟩
    case round =>
      obtain ⟨k, rfl, rfl, hk, hokk, hbel⟩ := hrel
      by_cases hlt : k < n
      · have hkl : k < p.length := by rw [hnn.out]; exact hlt
        obtain ⟨b, off, rfl, hb, hc⟩ := it_at (hrH.out.of_below (Nat.le_refl _) hbel) hkl
        have hu := hup.out wr hbel k hlt
        rw [h48.out k hlt] at hu
        have hs := hrs.out k hlt
        have hl := hrl.out k
        have e : p.getD k 0 = p[k] := by simp [hkl]
        rw [e] at hs
        have hoks := hok.out k
        rw [hokk.out, Bool.true_and] at hoks
        generalize p[k] = y at *
        obtain ⟨r, hrr⟩ : ∃ r, Hid (rootG p k = r) := ⟨_, rfl⟩
        rw [hrr.out] at hs hl ⊢
        have hbel := hide hbel
        cases hq : upF p 48 (k : Int) with
        | none =>
          rw [hq] at hu hoks
          have hres : Hid (rightF p = false) := by show _ = _; rw [hF.out, hof.out (k + 1) n (by rw [hoks]; rfl) (by omega)]; rfl
          have hu := hide hu
          clear hoks hs e
          go_wp2_with (go_at_call 57; refine hu.out.mono ?_; rintro e w1 ⟨v, rfl, _, hb1⟩; have hb1 := hide hb1)
          go_ret
          exact ⟨by rw [hres.out]; rfl, hbel.out.trans (hb1.out.mono (by have := hbel.out.size; omega))⟩
        | some wy =>
          rw [hq] at hu hoks
          have hoks : Hid (okG p (k + 1) = true) := hoks
          have hu := hide hu
          by_cases hy : y = -1
          · subst hy
            rw [if_pos rfl] at hs
            have hs := hide hs
            clear e
            go_wp2_with (go_at_call 57; refine hu.out.mono ?_; rintro e w1 ⟨v, rfl, _, hb1⟩; have hb1 := hide hb1)
            go_roundw
            case rel => exact ⟨k + 1, by go_num, by rw [hs.out]; go_num, by omega, hoks, hbel.out.trans (hb1.out.mono (by have := hbel.out.size; omega))⟩
            case measure => simp [intOf]; omega
          · rw [if_neg hy] at hs
            have hs := hide hs
            clear e
            go_wp2_with (go_at_call 57; refine hu.out.mono ?_; rintro e w1 ⟨v, rfl, _, hb1⟩; have hb1 := hide hb1)
            go_roundw
            case rel => exact ⟨k + 1, by go_num, by rw [hs.out]; rfl, by omega, hoks, hbel.out.trans (hb1.out.mono (by have := hbel.out.size; omega))⟩
            case measure => simp [intOf]; omega
      · obtain rfl : k = n := by omega
        have hres : Hid (rightF p = ((rootG p k : Int) == 1)) := by
          show _ = _
          rw [hF.out, hokk.out, hall.out, Bool.true_and, Bool.eq_iff_iff]
          simp
          omega
        have hbel := hide hbel
        go_wp2_with fail
        go_ret
        exact ⟨by rw [hres.out]; rfl, hbel.out⟩
  · have hF : Hid (rightF p = false) := by show _ = _; unfold rightF; rw [decide_eq_false h1]; rfl
    obtain ⟨n, hnn⟩ : ∃ n, Hid (p.length = n) := ⟨_, rfl⟩
    rw [hnn.out] at hn h1 ⊢
    clear hr
    by_cases h0 : n < 1
    · clear h1
      go_enter Tryd.func19, Tryd.ntmps19
      go_wp2_with fail
      go_ret
      exact ⟨by rw [hF.out]; rfl, Below.refl _ _⟩
    · have h2 : 48 < n := by omega
      clear h1
      go_enter Tryd.func19, Tryd.ntmps19
      go_wp2_with fail
      go_ret
      exact ⟨by rw [hF.out]; rfl, Below.refl _ _⟩
end Go.Proofs.YtcpakoobgcdekaaDoor

/- The walks of layer 22, on: Put, the reference's, and alive. By the prover of this repo. -/
import Derived.Test.YtclndbaafibaiaaVaryW2
namespace Go.Proofs.Ytclndbaafibaiaa
open Go.RowKit
open VaryM

theorem putF_neg {f : Nat → Int} {n k : Nat} (hk : k < n) (h : f k < 0) : putF f n = (⟨#[]⟩, 2) := by
  unfold putF; exact if_neg fun h2 => by have := h2 k hk; omega
theorem putF_all {f : Nat → Int} {n : Nat} (h : ∀ i, i < n → 0 ≤ f i) : putF f n = (encsStr f n, 0) := if_pos h
theorem all_succ {f : Nat → Int} {k : Nat} (h : ∀ i, i < k → 0 ≤ f i) (h2 : 0 ≤ f k) : ∀ i, i < k + 1 → 0 ≤ f i := fun i hi => by
  by_cases e : i = k
  · subst e; exact h2
  · exact h i (by omega)

set_option maxRecDepth 100000 in
set_option maxHeartbeats 400000 in
theorem vary_put (a : Option Addr) (n c : Nat) (f : Nat → Int) (w : World) (hr : Rd w a n 1 (fun i => .int .i64 (f i))) (hn : n ≤ 100000) (hf : ∀ i, i < n → f i ≤ 9223372036854775807) :
    Calls Try.prog 28 #[.slice a n c] w fun e w' => e = .returned (.tuple #[.string (putF f n).1, .int .i64 (putF f n).2]) ∧ Below w.heap.size w w' := by
  have hlen := hide (fun k (hk : k ≤ n) => encs_len (f := f) k (fun i hi => hf i (by omega)))
  go_enter Try.func28, Try.ntmps28
  go_wp2_with fail
  go_loopw [4, 9] (fun b i wr => ∃ k : Nat, k ≤ n ∧ i = .int .i64 k ∧ wr.ownsRow w.heap.size 5 1 b (encs f k).length ((encs f k).map bv) ∧ Hid (∀ i, i < k → 0 ≤ f i) ∧ Below w.heap.size w wr)
    (fun _ i _ => n - (intOf i).toNat)
  case atStart => exact ⟨0, by omega, rfl, own_nil _ _ _ _, fun i hi => absurd hi (by omega), Below.refl _ _⟩
  case round =>
    obtain ⟨k, hk, rfl, how, hpos, hbel⟩ := hrel
    have hl := hlen.out k hk
    have hz := hbel.size
    by_cases hlt : k < n
    · obtain ⟨b, off, rfl, hb, hc⟩ := (hr.kept hbel) (by omega)
      have hck := hc k (by omega)
      have hfk := hf k hlt
      clear hc
      by_cases hneg : f k < 0
      · have hres := hide (putF_neg hlt hneg)
        go_wp2_with fail
        go_ret2
        exact ⟨by rw [hres.out]; rfl, hbel⟩
      · go_wp2_with fail
        refine (vary_one _ (encs f k) (f k) w.heap.size _ how hz (by omega) (by omega) hfk).mono ?_
        rintro e w1 ⟨v1, rfl, how1, hb1⟩
        have hbel1 := hbel.trans hb1
        clear how hb1 hck hbel hz
        go_wp2_with fail
        go_roundw
        case rel => exact ⟨k + 1, by omega, by go_num, how1, all_succ hpos.out (by omega), hbel1⟩
        case measure => simp [intOf]; omega
    · obtain rfl : k = n := by omega
      have hres := hide (putF_all hpos.out)
      have hcv := own_text (P := Try.prog) 41 9 Try.underlying41 Try.underlying5 Try.underlying9 how
      go_wp2_with fail
      go_ret2
      exact ⟨by rw [hres.out]; rfl, hbel⟩

theorem encs_one (f : Nat → Int) (k : Nat) : encsStr f k ++ encStr (f k) = encsStr f (k + 1) := str_ext (by simp [encsStr, encStr, encs])
theorem encsStr_size (f : Nat → Int) (k : Nat) : (encsStr f k).size = (encs f k).length := rfl

set_option maxRecDepth 100000 in
set_option maxHeartbeats 400000 in
theorem ref22_put (a : Option Addr) (n c : Nat) (f : Nat → Int) (w : World) (hr : Rd w a n 1 (fun i => .int .i64 (f i))) (hn : n ≤ 100000) (hf : ∀ i, i < n → f i ≤ 9223372036854775807) :
    Calls Try.prog 29 #[.slice a n c] w fun e w' => e = .returned (.tuple #[.string (putF f n).1, .int .i64 (putF f n).2]) ∧ Below w.heap.size w w' := by
  have hlen := hide (fun k (hk : k ≤ n) => encs_len (f := f) k (fun i hi => hf i (by omega)))
  go_enter Try.func29, Try.ntmps29
  go_wp2_with fail
  go_loopw [4, 5] (fun s i wr => ∃ k : Nat, k ≤ n ∧ i = .int .i64 k ∧ s = .string (encsStr f k) ∧ Hid (∀ i, i < k → 0 ≤ f i) ∧ Below w.heap.size w wr)
    (fun _ i _ => n - (intOf i).toNat)
  case atStart => exact ⟨0, by omega, rfl, rfl, fun i hi => absurd hi (by omega), Below.refl _ _⟩
  case round =>
    obtain ⟨k, hk, rfl, rfl, hpos, hbel⟩ := hrel
    have hl := hlen.out k hk
    by_cases hlt : k < n
    · obtain ⟨b, off, rfl, hb, hc⟩ := (hr.kept hbel) (by omega)
      have hck := hc k (by omega)
      have hfk := hf k hlt
      clear hc
      by_cases hneg : f k < 0
      · have hres := hide (putF_neg hlt hneg)
        go_wp2_with fail
        go_ret2
        exact ⟨by rw [hres.out]; rfl, hbel⟩
      · have hone := hide (encs_one f k)
        have hs1 := encsStr_size f k
        have hs2 := encStr_size (f k)
        have hl2 := enc_len9 (n := (f k).toNat) (by omega)
        go_wp2_with fail
        refine (ref22_one (f k) _ (by omega) hfk).mono ?_
        rintro e w1 ⟨rfl, hb1⟩
        have hbel1 := hbel.trans (hb1.mono hbel.size)
        clear hb1 hck hbel
        go_wp2_with fail
        go_roundw
        case rel => exact ⟨k + 1, by omega, by go_num, by rw [← hone.out], all_succ hpos.out (by omega), hbel1⟩
        case measure => simp [intOf]; omega
    · obtain rfl : k = n := by omega
      have hres := hide (putF_all hpos.out)
      go_wp2_with fail
      go_ret2
      exact ⟨by rw [hres.out]; rfl, hbel⟩
end Go.Proofs.Ytclndbaafibaiaa

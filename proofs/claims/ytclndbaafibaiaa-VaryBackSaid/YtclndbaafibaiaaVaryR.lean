/- The walks of layer 22, on: Rises, the reference's, and alive. By the prover of this repo. -/
import Derived.Test.YtclndbaafibaiaaVaryP
namespace Go.Proofs.Ytclndbaafibaiaa
open Go.RowKit
open VaryM

/-- The number before the k-th, 0 before the first; how far each rises; the bytes of the first k. -/
def lastF (f : Nat → Int) : Nat → Int | 0 => 0 | k + 1 => f k
def gapF (f : Nat → Int) (k : Nat) : Int := f k - lastF f k
def risT (f : Nat → Int) (n k : Nat) : ByteArray := ⟨(enc n ++ encs (gapF f) k).toArray⟩
/-- The bytes of numbers that rise, or that they don't. -/
def risF (f : Nat → Int) (n : Nat) : ByteArray × Int := if ∀ i, i < n → lastF f i < f i then (risT f n n, 0) else (⟨#[]⟩, 10)

theorem risF_no {f : Nat → Int} {n k : Nat} (hk : k < n) (h : f k ≤ lastF f k) : risF f n = (⟨#[]⟩, 10) := by
  unfold risF; exact if_neg fun h2 => by have := h2 k hk; omega
theorem risF_all {f : Nat → Int} {n : Nat} (h : ∀ i, i < n → lastF f i < f i) : risF f n = (risT f n n, 0) := if_pos h
theorem ris_succ {f : Nat → Int} {k : Nat} (h : ∀ i, i < k → lastF f i < f i) (h2 : lastF f k < f k) : ∀ i, i < k + 1 → lastF f i < f i := fun i hi => by
  by_cases e : i = k
  · subst e; exact h2
  · exact h i (by omega)
theorem gaps_len {f : Nat → Int} {k : Nat} (h : (encs (gapF f) k).length ≤ 9 * k) (h0 : 0 ≤ lastF f k) (h1 : f k ≤ 9223372036854775807) : (encs (gapF f) (k + 1)).length ≤ 9 * (k + 1) := by
  have := enc_len9 (n := (gapF f k).toNat) (by unfold gapF; omega)
  simp only [encs, List.length_append]
  omega

set_option maxRecDepth 100000 in
set_option maxHeartbeats 400000 in
theorem vary_rises (a : Option Addr) (n c : Nat) (f : Nat → Int) (w : World) (hr : Rd w a n 1 (fun i => .int .i64 (f i))) (hn : n ≤ 100000) (hf : ∀ i, i < n → f i ≤ 9223372036854775807) :
    Calls Try.prog 37 #[.slice a n c] w fun e w' => e = .returned (.tuple #[.string (risF f n).1, .int .i64 (risF f n).2]) ∧ Below w.heap.size w w' := by
  have hl9 := enc_len9 (n := n) (by omega)
  go_enter Try.func37, Try.ntmps37
  go_wp2_with fail
  refine (vary_one _ [] n w.heap.size _ (own_nil _ _ _ _) (Nat.le_refl _) (by simp) (by omega) (by omega)).mono ?_
  rintro e w1 ⟨v1, rfl, how1, hb1⟩
  go_wp2_with fail
  go_loopw [4, 5, 13] (fun b l i wr => ∃ k : Nat, k ≤ n ∧ i = .int .i64 k ∧ l = .int .i64 (lastF f k) ∧ 0 ≤ lastF f k ∧ wr.ownsRow w.heap.size 5 1 b (enc n ++ encs (gapF f) k).length ((enc n ++ encs (gapF f) k).map bv) ∧ Hid (∀ i, i < k → lastF f i < f i) ∧ (encs (gapF f) k).length ≤ 9 * k ∧ Below w.heap.size w wr)
    (fun _ _ i _ => n - (intOf i).toNat)
  case atStart => exact ⟨0, by omega, rfl, rfl, Int.le_refl 0, by simpa [encs] using how1, fun i hi => absurd hi (by omega), by simp [encs], hb1⟩
  case round =>
    clear how1 hb1
    obtain ⟨k, hk, rfl, rfl, hl0, how, hpos, hl, hbel⟩ := hrel
    have hz := hbel.size
    by_cases hlt : k < n
    · obtain ⟨b, off, rfl, hb, hc⟩ := (hr.kept hbel) (by omega)
      have hck := hc k (by omega)
      have hfk := hf k hlt
      clear hc
      have hgl := hide (gaps_len hl hl0 hfk)
      by_cases hneg : f k ≤ lastF f k
      · have hres := hide (risF_no hlt hneg)
        go_wp2_with fail
        go_ret2
        exact ⟨by rw [hres.out]; rfl, hbel⟩
      · go_wp2_with fail
        refine (vary_one _ (enc n ++ encs (gapF f) k) (f k - lastF f k) w.heap.size _ how hz (by simp only [List.length_append]; omega) (by omega) (by omega)).mono ?_
        rintro e w2 ⟨v2, rfl, how2, hb2⟩
        have hbel2 := hbel.trans hb2
        have how3 : w2.ownsRow w.heap.size 5 1 v2 (enc n ++ encs (gapF f) (k + 1)).length ((enc n ++ encs (gapF f) (k + 1)).map bv) := by
          rw [List.append_assoc] at how2
          exact how2
        clear how hb2 hbel hz how2
        go_wp2_with fail
        go_roundw
        case rel => exact ⟨k + 1, by omega, by go_num, rfl, by show 0 ≤ f k; omega, how3, ris_succ hpos.out (by omega), hgl.out, hbel2⟩
        case measure => simp [intOf]; omega
    · obtain rfl : k = n := by omega
      have hres := hide (risF_all hpos.out)
      have hcv := own_text (P := Try.prog) 41 9 Try.underlying41 Try.underlying5 Try.underlying9 how
      go_wp2_with fail
      go_ret2
      exact ⟨by rw [hres.out]; rfl, hbel⟩

theorem risT_one (f : Nat → Int) (n k : Nat) : risT f n k ++ encStr (f k - lastF f k) = risT f n (k + 1) := str_ext (by simp [risT, encStr, encs, gapF])
theorem risT_zero (f : Nat → Int) (n : Nat) : encStr (n : Int) = risT f n 0 := str_ext (by simp [risT, encStr, encs])
theorem risT_size (f : Nat → Int) (n k : Nat) : (risT f n k).size = (enc n).length + (encs (gapF f) k).length := by
  show (enc n ++ encs (gapF f) k).length = _
  rw [List.length_append]

set_option maxRecDepth 100000 in
set_option maxHeartbeats 400000 in
theorem ref22_rises (a : Option Addr) (n c : Nat) (f : Nat → Int) (w : World) (hr : Rd w a n 1 (fun i => .int .i64 (f i))) (hn : n ≤ 100000) (hf : ∀ i, i < n → f i ≤ 9223372036854775807) :
    Calls Try.prog 38 #[.slice a n c] w fun e w' => e = .returned (.tuple #[.string (risF f n).1, .int .i64 (risF f n).2]) ∧ Below w.heap.size w w' := by
  have hl9 := enc_len9 (n := n) (by omega)
  have ht0 := hide (risT_zero f n)
  go_enter Try.func38, Try.ntmps38
  go_wp2_with fail
  refine (ref22_one n _ (by omega) (by omega)).mono ?_
  rw [ht0.out]
  rintro e w1 ⟨rfl, hb1⟩
  go_wp2_with fail
  go_loopw [4, 5, 6] (fun s l i wr => ∃ k : Nat, k ≤ n ∧ i = .int .i64 k ∧ l = .int .i64 (lastF f k) ∧ 0 ≤ lastF f k ∧ s = .string (risT f n k) ∧ Hid (∀ i, i < k → lastF f i < f i) ∧ (encs (gapF f) k).length ≤ 9 * k ∧ Below w.heap.size w wr)
    (fun _ _ i _ => n - (intOf i).toNat)
  case atStart => exact ⟨0, by omega, rfl, rfl, Int.le_refl 0, rfl, fun i hi => absurd hi (by omega), by simp [encs], hb1⟩
  case round =>
    clear hb1
    obtain ⟨k, hk, rfl, rfl, hl0, rfl, hpos, hl, hbel⟩ := hrel
    by_cases hlt : k < n
    · obtain ⟨b, off, rfl, hb, hc⟩ := (hr.kept hbel) (by omega)
      have hck := hc k (by omega)
      have hfk := hf k hlt
      clear hc
      have hgl := hide (gaps_len hl hl0 hfk)
      by_cases hneg : f k ≤ lastF f k
      · have hres := hide (risF_no hlt hneg)
        go_wp2_with fail
        go_ret2
        exact ⟨by rw [hres.out]; rfl, hbel⟩
      · have hone := hide (risT_one f n k)
        have hs1 := risT_size f n k
        have hs2 := encStr_size (f k - lastF f k)
        have hl2 := enc_len9 (n := (f k - lastF f k).toNat) (by omega)
        go_wp2_with fail
        refine (ref22_one (f k - lastF f k) _ (by omega) (by omega)).mono ?_
        rintro e w2 ⟨rfl, hb2⟩
        have hbel2 := hbel.trans (hb2.mono hbel.size)
        have hck2 := (hb2.cell (p := ⟨b, off + k, none⟩) hb).trans hck
        clear hb2 hck hbel
        go_wp2_with fail
        go_roundw
        case rel => exact ⟨k + 1, by omega, by go_num, rfl, by show 0 ≤ f k; omega, by rw [← hone.out], ris_succ hpos.out (by omega), hgl.out, hbel2⟩
        case measure => simp [intOf]; omega
    · obtain rfl : k = n := by omega
      have hres := hide (risF_all hpos.out)
      go_wp2_with fail
      go_ret2
      exact ⟨by rw [hres.out]; rfl, hbel⟩
end Go.Proofs.Ytclndbaafibaiaa

/- The walks of layer 22, on: alive, and the law VaryPuts. By the prover of this repo. -/
import Derived.Test.YtclndbaafibaiaaVaryR
namespace Go.Proofs.Ytclndbaafibaiaa
open Go.RowKit
open VaryM

theorem enc1 {n : Nat} (h : n < 128) : enc n = [UInt8.ofNat n] := enc_lt h
theorem put_300 : putF (fun i => ([300] : List Int).getD i 0) 1 = (⟨#[172, 2]⟩, 0) := by
  rw [putF_all (by intro i hi; obtain rfl : i = 0 := by omega
                   decide)]
  unfold encsStr
  rw [show encs (fun i => ([300] : List Int).getD i 0) 1 = enc 300 from rfl, enc_ge (by omega), enc_lt (by omega)]
  rfl
theorem ris_311 : risF (fun i => ([3, 10, 11] : List Int).getD i 0) 3 = (⟨#[3, 3, 7, 1]⟩, 0) := by
  rw [risF_all (by intro i hi; rcases (show i = 0 ∨ i = 1 ∨ i = 2 by omega) with rfl | rfl | rfl <;> decide)]
  unfold risT
  rw [show encs (gapF (fun i => ([3, 10, 11] : List Int).getD i 0)) 3 = ((([] ++ enc 3) ++ enc 7) ++ enc 1) from rfl, enc1 (by omega), enc1 (by omega), enc1 (by omega)]
  rfl

set_option maxRecDepth 100000 in
set_option maxHeartbeats 400000 in
theorem alive22 (w : World) : Calls Try.prog 27 #[] w fun e w' => e = .returned (.bool true) ∧ Below w.heap.size w w' := by
  have h300 := put_300
  have h311 := ris_311
  have p1 := hide (vary_put (some ⟨w.heap.size, 0, none⟩) 1 1 (fun i => ([300] : List Int).getD i 0) (w.alloc (.cells #[.int .i64 300] 3))
    (Rd.of_blk (Blk.made _ _ _) 0 (by simp) (by intro i hi; obtain rfl : i = 0 := by omega
                                                rfl)) (by omega) (by intro i hi; obtain rfl : i = 0 := by omega
                                                                     decide))
  go_enter Try.func27, Try.ntmps27
  go_wp2_with fail
  refine p1.out.mono ?_
  rw [h300]
  rintro e w1 ⟨rfl, hb1⟩
  clear p1
  have p2 := hide (vary_rises (some ⟨w1.heap.size, 0, none⟩) 3 3 (fun i => ([3, 10, 11] : List Int).getD i 0) (w1.alloc (.cells #[.int .i64 3, .int .i64 10, .int .i64 11] 3))
    (Rd.of_blk (Blk.made _ _ _) 0 (by simp) (by intro i hi; rcases (show i = 0 ∨ i = 1 ∨ i = 2 by omega) with rfl | rfl | rfl <;> rfl)) (by omega) (by intro i hi; rcases (show i = 0 ∨ i = 1 ∨ i = 2 by omega) with rfl | rfl | rfl <;> decide))
  go_wp2_with fail
  refine p2.out.mono ?_
  rw [h311]
  rintro e w2 ⟨rfl, hb2⟩
  clear p2
  go_wp2_with fail
  go_ret
  exact ⟨rfl, bthen (balloc (bthen (balloc0 _ _) hb1) _) hb2⟩
end Go.Proofs.Ytclndbaafibaiaa

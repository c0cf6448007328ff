/- The walks of layer 29, on: alive. By the prover of this repo. -/
import Derived.Test.YtclndbaafibaiaaLetterF
namespace Go.Proofs.Ytclndbaafibaiaa
open Go.RowKit
open VaryM SealM

theorem encode_1 : encodeF ⟨1, 2, 4, ⟨#[120]⟩⟩ = (⟨#[68, 87, 76, 1, 1, 2, 4, 1, 120, 7, 210, 1, 105]⟩, 0) := by
  unfold encodeF
  rw [if_pos (by decide +kernel)]
  have e : plainF ⟨1, 2, 4, ⟨#[120]⟩⟩ = ⟨#[68, 87, 76, 1, 1, 2, 4, 1, 120]⟩ := by
    rw [← plain_join]
    unfold encStr
    rw [show (1 : Int).toNat = 1 from rfl, show (2 : Int).toNat = 2 from rfl, show (4 : Int).toNat = 4 from rfl, show (((⟨#[120]⟩ : ByteArray).size : Int)).toNat = 1 from rfl, enc_lt (by omega), enc_lt (by omega), enc_lt (by omega)]
    decide +kernel
  rw [e]
  decide +kernel

theorem alive29 (w : World) : Calls Try.prog 41 #[] w fun e w' => e = .returned (.bool true) ∧ Below w.heap.size w w' := by
  have hE := fun W => letter_encode ⟨1, 2, 4, ⟨#[120]⟩⟩ ⟨by decide, by decide, by decide, by decide, by decide, by decide, by decide⟩ W
  rw [encode_1] at hE
  replace hE := hide hE
  go_enter Try.func41, Try.ntmps41
  go_wp2_with fail
  refine (hE.out _).mono ?_
  rintro e w1 ⟨rfl, hb1⟩
  go_wp2_with fail
  go_ret
  exact ⟨rfl, hb1⟩
end Go.Proofs.Ytclndbaafibaiaa

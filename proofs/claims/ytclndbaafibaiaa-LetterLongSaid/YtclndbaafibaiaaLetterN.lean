/- How long a letter's bytes are, beside its body. By the prover of this repo. -/
import Derived.Test.YtclndbaafibaiaaLetterL
namespace Go.Proofs.Ytclndbaafibaiaa
open Go.RowKit
open VaryM SealM

theorem encode_size (x : Let) (h : x.Wf) (hr : rightF x = true) : (sealed (plainF x)).size ≤ 28 + x.body.size := by
  have hp := right_parts hr
  obtain ⟨ep, fr, co, body⟩ := x
  simp only at hp
  have h1 := h.e1
  have h5 := h.c0
  simp only at h1 h5
  have e1 := enc_len9 (n := ep.toNat) (by omega)
  have e2 := enc_len 0 fr.toNat (by omega)
  have e3 := enc_len 6 co.toNat (by rw [show (128 : Nat) ^ (6 + 1) = 562949953421312 from rfl]; omega)
  have e4 := enc_len 2 body.size (by rw [show (128 : Nat) ^ (2 + 1) = 2097152 from rfl]; omega)
  have hl := sumStr_size (SealM.of (plainF ⟨ep, fr, co, body⟩).data.toList)
  unfold sealed
  rw [ByteArray.size_append, hl, ← plain_join]
  have s4 : (encStr (body.size : Int)).size = (enc body.size).length := rfl
  have sm : (⟨#[68, 87, 76, 1]⟩ : ByteArray).size = 4 := rfl
  simp only [ByteArray.size_append, encStr_size, s4, sm, Int.toNat_natCast]
  omega
end Go.Proofs.Ytclndbaafibaiaa

/- Bits of sets: which set is within another one. Plain facts. By the prover of this repo. -/
import Derived.Test.YtlnbglpddpgooaaDoorCrewB
namespace Go.Proofs.YtlnbglpddpgooaaDoor

theorem andNot_u64 (a b : Nat) (ha : a < 18446744073709551616) (hb : b < 18446744073709551616) : ∃ c : Nat, bits .andNot .u64 (a : Int) (b : Int) = (c : Int) ∧ c < 18446744073709551616 ∧ ∀ j, c.testBit j = (a.testBit j && !b.testBit j) := by
  refine ⟨(BitVec.ofInt 64 (a : Int) &&& ~~~ BitVec.ofInt 64 (b : Int)).toNat, ?_, BitVec.isLt _, ?_⟩
  · show IntKind.u64.wrap ((BitVec.ofInt 64 (a : Int) &&& ~~~ BitVec.ofInt 64 (b : Int)).toNat : Int) = _
    rw [IntKind.wrap_u64]
    have := (BitVec.ofInt 64 (a : Int) &&& ~~~ BitVec.ofInt 64 (b : Int)).isLt
    omega
  · intro j
    rw [← BitVec.getLsbD, BitVec.getLsbD_and, BitVec.getLsbD_not, BitVec.getLsbD, BitVec.getLsbD, toNat_u64 a ha, toNat_u64 b hb]
    by_cases hj : j < 64
    · simp [hj]
    · have : a.testBit j = false := Nat.testBit_lt_two_pow (Nat.lt_of_lt_of_le ha (by rw [show (18446744073709551616 : Nat) = 2 ^ 64 from rfl]; exact Nat.pow_le_pow_right (by omega) (by omega)))
      simp [hj, this]

theorem nat_zero_iff (c : Nat) : c = 0 ↔ ∀ j, c.testBit j = false :=
  ⟨fun h j => by rw [h]; simp, fun h => Nat.eq_of_testBit_eq fun j => by rw [h j]; simp⟩

theorem within_iff (a b : Nat) (ha : a < 18446744073709551616) (hb : b < 18446744073709551616) : withinF (a : Int) (b : Int) = true ↔ ∀ j, a.testBit j = true → b.testBit j = true := by
  obtain ⟨c, hc, _, hj⟩ := andNot_u64 a b ha hb
  unfold withinF
  rw [hc, beq_iff_eq]
  constructor
  · intro h j h1
    have h0 : c = 0 := by omega
    have := (nat_zero_iff c).1 h0 j
    rw [hj j, h1] at this
    simpa using this
  · intro h
    have h0 : c = 0 := (nat_zero_iff c).2 fun j => by
      rw [hj j]
      by_cases h1 : a.testBit j = true
      · rw [h1, h j h1]; rfl
      · simp at h1; rw [h1]; rfl
    omega

theorem has_zero (i : Int) : hasF 0 i = false := by
  unfold hasF
  simp
theorem with_zero (i : Int) (h : 0 ≤ i ∧ i < 48) : withF 0 i = 2 ^ i.toNat := by
  unfold withF
  rw [if_pos ⟨h, has_zero i⟩]
  simp
/-- A sensor alone is within a set just if the set has it. -/
theorem within_one (i d : Int) (h : 0 ≤ i ∧ i < 48) (h0 : 0 ≤ d) (h1 : d < 18446744073709551616) : withinF (withF 0 i) d = hasF d i := by
  obtain ⟨m, rfl⟩ := Int.eq_ofNat_of_zero_le h0
  rw [with_zero i h, pow_i, has_nat m i h.1 h.2, Bool.eq_iff_iff, within_iff _ _ (by have := pow48 i h.2; omega) (by omega)]
  constructor
  · intro k; exact k i.toNat (by simp)
  · intro k j hj
    rw [Nat.testBit_two_pow] at hj
    simp at hj
    subst hj
    exact k
end Go.Proofs.YtlnbglpddpgooaaDoor

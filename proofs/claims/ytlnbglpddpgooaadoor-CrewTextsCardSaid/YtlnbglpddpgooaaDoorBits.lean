/- Bit operations on int64 of numbers that are not negative, as operations of natural numbers. By the prover of this repo. -/
import Derived.Test.YtlnbglpddpgooaaDoorBase
namespace Go.Proofs.YtlnbglpddpgooaaDoor

theorem toNat_i64 (a : Nat) (ha : a < 9223372036854775808) : (BitVec.ofInt 64 (a : Int)).toNat = a := by
  rw [BitVec.ofInt_natCast, BitVec.toNat_ofNat]
  exact Nat.mod_eq_of_lt (by omega)
theorem or_i64 (a b : Nat) (ha : a < 9223372036854775808) (hb : b < 9223372036854775808) : bits .or .i64 (a : Int) (b : Int) = ((a ||| b : Nat) : Int) := by
  have hx : a ||| b < 2 ^ 63 := Nat.or_lt_two_pow (by omega) (by omega)
  have e : (BitVec.ofInt 64 (a : Int) ||| BitVec.ofInt 64 (b : Int)).toNat = a ||| b := by rw [BitVec.toNat_or, toNat_i64 a ha, toNat_i64 b hb]
  show IntKind.i64.wrap ((BitVec.ofInt 64 (a : Int) ||| BitVec.ofInt 64 (b : Int)).toNat : Int) = _
  rw [e, IntKind.wrap_i64]
  omega
theorem and_i64 (a b : Nat) (ha : a < 9223372036854775808) (hb : b < 9223372036854775808) : bits .and .i64 (a : Int) (b : Int) = ((a &&& b : Nat) : Int) := by
  have hx : a &&& b < 2 ^ 63 := Nat.and_lt_two_pow _ (by omega)
  have e : (BitVec.ofInt 64 (a : Int) &&& BitVec.ofInt 64 (b : Int)).toNat = a &&& b := by rw [BitVec.toNat_and, toNat_i64 a ha, toNat_i64 b hb]
  show IntKind.i64.wrap ((BitVec.ofInt 64 (a : Int) &&& BitVec.ofInt 64 (b : Int)).toNat : Int) = _
  rw [e, IntKind.wrap_i64]
  omega
theorem xor_i64 (a b : Nat) (ha : a < 9223372036854775808) (hb : b < 9223372036854775808) : bits .xor .i64 (a : Int) (b : Int) = ((a ^^^ b : Nat) : Int) := by
  have hx : a ^^^ b < 2 ^ 63 := Nat.xor_lt_two_pow (by omega) (by omega)
  have e : (BitVec.ofInt 64 (a : Int) ^^^ BitVec.ofInt 64 (b : Int)).toNat = a ^^^ b := by rw [BitVec.toNat_xor, toNat_i64 a ha, toNat_i64 b hb]
  show IntKind.i64.wrap ((BitVec.ofInt 64 (a : Int) ^^^ BitVec.ofInt 64 (b : Int)).toNat : Int) = _
  rw [e, IntKind.wrap_i64]
  omega
/-- A power of two, and a number below it. -/
theorem or_pow (k x : Nat) (hk : k ≤ 62) (hx : x < 2 ^ k) : bits .or .i64 ((2 ^ k : Nat) : Int) (x : Int) = ((2 ^ k + x : Nat) : Int) := by
  have hp : 2 ^ k ≤ 2 ^ 62 := Nat.pow_le_pow_right (by omega) hk
  rw [or_i64 _ _ (by omega) (by omega)]
  have := Nat.two_pow_add_eq_or_of_lt hx 1
  rw [Nat.mul_one] at this
  rw [this]
/-- The last bit turned. -/
theorem xor_one (x : Nat) (hx : x < 9223372036854775808) : bits .xor .i64 (x : Int) 1 = if (x : Int) % 2 = 0 then (x : Int) + 1 else (x : Int) - 1 := by
  have h := xor_i64 x 1 hx (by omega)
  have h2 : x ^^^ 1 = if x % 2 = 0 then x + 1 else x - 1 := by
    have hd : (x ^^^ 1) / 2 = x / 2 := by rw [Nat.xor_div_two]; simp
    have hm : (x ^^^ 1) % 2 = (x + 1) % 2 := by
      have h1 := Nat.xor_mod_two_pow (a := x) (b := 1) (n := 1)
      rw [Nat.pow_one] at h1
      rw [h1]
      rcases Nat.mod_two_eq_zero_or_one x with h2 | h2 <;> rw [h2] <;> simp <;> omega
    split <;> omega
  rw [show ((1 : Nat) : Int) = 1 from rfl] at h
  rw [h, h2]
  split <;> split <;> omega
end Go.Proofs.YtlnbglpddpgooaaDoor

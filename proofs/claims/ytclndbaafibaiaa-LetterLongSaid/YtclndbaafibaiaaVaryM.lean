/- Plain facts on the numbers of layer 22: seven bits a byte, and how they are read. No program in sight. By the prover of this repo. -/
import Derived.Test.YtclndbaafibaiaaRows
namespace Go.Proofs.Ytclndbaafibaiaa
namespace VaryM

/-- A number's bytes. -/
def enc (n : Nat) : List UInt8 := if n < 128 then [UInt8.ofNat n] else UInt8.ofNat (128 + n % 128) :: enc (n / 128)
termination_by n
decreasing_by omega

theorem enc_lt {n : Nat} (h : n < 128) : enc n = [UInt8.ofNat n] := by rw [enc, if_pos h]
theorem enc_ge {n : Nat} (h : 128 ≤ n) : enc n = UInt8.ofNat (128 + n % 128) :: enc (n / 128) := by rw [enc, if_neg (by omega)]

theorem enc_pos (n : Nat) : 1 ≤ (enc n).length := by
  rw [enc]; split <;> simp
theorem enc_len (k : Nat) : ∀ n, n < 128 ^ (k + 1) → (enc n).length ≤ k + 1 := by
  induction k with
  | zero => intro n h; rw [enc_lt (by simpa using h)]; simp
  | succ k ih =>
    intro n h
    by_cases h1 : n < 128
    · rw [enc_lt h1]; simp
    · rw [enc_ge (by omega)]
      have := ih (n / 128) (by rw [Nat.pow_succ] at h; omega)
      simp; omega
theorem enc_len9 {n : Nat} (h : n ≤ 9223372036854775807) : (enc n).length ≤ 9 := by
  have : (128 : Nat) ^ (8 + 1) = 9223372036854775808 := rfl
  exact enc_len 8 n (by omega)

/-- The bytes of numbers, one behind the other. -/
def encs (f : Nat → Int) : Nat → List UInt8
  | 0 => []
  | k + 1 => encs f k ++ enc (f k).toNat
theorem encs_len {f : Nat → Int} : ∀ k, (∀ i, i < k → f i ≤ 9223372036854775807) → (encs f k).length ≤ 9 * k
  | 0, _ => by simp [encs]
  | k + 1, h => by
    have h1 := encs_len k (fun i hi => h i (by omega))
    have h2 := enc_len9 (n := (f k).toNat) (by have := h k (by omega); omega)
    simp only [encs, List.length_append]
    omega

/-- The number that bytes begin with, from byte i on: what is gathered, what a bit is worth. The number, its bytes, the error. -/
def getGo (i n place : Nat) : List UInt8 → Nat × Nat × Nat
  | [] => if i = 9 then (0, 0, 10) else (0, 0, 9)
  | c :: r =>
    if i = 9 then (0, 0, 10)
    else if c.toNat < 128 then (if 0 < i ∧ c.toNat = 0 then (0, 0, 10) else (n + c.toNat * place, i + 1, 0))
    else getGo (i + 1) (n + (c.toNat - 128) * place) (place * 128) r
def get (l : List UInt8) : Nat × Nat × Nat := getGo 0 0 1 l
end VaryM
end Go.Proofs.Ytclndbaafibaiaa

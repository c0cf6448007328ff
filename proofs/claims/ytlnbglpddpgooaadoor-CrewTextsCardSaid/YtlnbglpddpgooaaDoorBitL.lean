/- The sensors of a set, rising; a set without its least one. Plain facts. By the prover of this repo. -/
import Derived.Test.YtlnbglpddpgooaaDoorCrewC
import Derived.Lib.TrailingZeros
namespace Go.Proofs.YtlnbglpddpgooaaDoor

/-- The sensors of a set, rising. -/
def bitsL (m : Nat) : List Nat := (List.range 48).filter fun i => m.testBit i
theorem bitsL_lt {m x : Nat} (h : x ∈ bitsL m) : x < 48 := by
  unfold bitsL at h
  simp at h
  exact h.1
theorem bitsL_mem {m x : Nat} : x ∈ bitsL m ↔ x < 48 ∧ m.testBit x = true := by
  unfold bitsL
  simp
theorem bitsL_length (m : Nat) : (bitsL m).length ≤ 48 := by
  have := List.length_filter_le (fun i => m.testBit i) (List.range 48)
  rw [List.length_range] at this
  exact this
theorem bitsL_zero : bitsL 0 = [] := by unfold bitsL; simp
theorem filter_first (p q : Nat → Bool) (k : Nat) (hk : p k = true) (hlt : ∀ i, i < k → p i = false) (hq : ∀ i, q i = (p i && decide (i ≠ k))) : ∀ n, k < n → (List.range n).filter p = k :: (List.range n).filter q := by
  have h0 : ∀ (r : Nat → Bool) n, (∀ i, i < n → r i = false) → (List.range n).filter r = [] := fun r n h => by
    rw [List.filter_eq_nil_iff]
    intro a ha
    rw [h a (by simpa using ha)]
    decide
  intro n
  induction n with
  | zero => intro h; omega
  | succ n ih =>
    intro h
    rw [List.range_succ, List.filter_append, List.filter_append]
    by_cases hkn : k = n
    · subst hkn
      rw [h0 p k hlt, h0 q k (fun i hi => by rw [hq, hlt i hi]; rfl)]
      simp [hk, hq]
    · rw [ih (by omega)]
      have hpq : q n = p n := by rw [hq, decide_eq_true (Ne.symm hkn), Bool.and_true]
      have : [n].filter p = [n].filter q := by rw [List.filter_cons, List.filter_cons, hpq]; rfl
      rw [this]; rfl
/-- A number's least bit, and the number without it. -/
theorem least_bit {m : Nat} (h0 : 0 < m) (h1 : m < 2 ^ 64) : Lib.ctz 64 m < 64 ∧ (m &&& (m - 1)) < m ∧ m.testBit (Lib.ctz 64 m) = true ∧ (∀ i, i < Lib.ctz 64 m → m.testBit i = false) ∧ ∀ i, (m &&& (m - 1)).testBit i = (m.testBit i && decide (i ≠ Lib.ctz 64 m)) := by
  have e : Lib.ctz 64 m = Lib.ctzFrom 64 m := by unfold Lib.ctz; rw [if_neg (by omega)]
  rw [e]
  obtain ⟨q, hq, hk⟩ := Lib.ctzFrom_spec 64 m h0 h1
  generalize Lib.ctzFrom 64 m = k at *
  have hp := Nat.two_pow_pos k
  have e1 : m = 2 ^ k * (2 * q + 1) + 0 := hq
  have e2 : m - 1 = 2 ^ k * (2 * q) + (2 ^ k - 1) := by rw [hq, Nat.mul_add]; omega
  have t1 : ∀ i, m.testBit i = if i < k then false else (2 * q + 1).testBit (i - k) := fun i => by
    rw [e1, Nat.testBit_two_pow_mul_add (2 * q + 1) (by omega : 0 < 2 ^ k) i]
    split <;> simp
  have t2 : ∀ i, (m - 1).testBit i = if i < k then (2 ^ k - 1).testBit i else (2 * q).testBit (i - k) := fun i => by
    rw [e2, Nat.testBit_two_pow_mul_add (2 * q) (by omega : 2 ^ k - 1 < 2 ^ k) i]
  have hz : ∀ j, (2 * q + 1).testBit j = (decide (j = 0) || (2 * q).testBit j) := fun j => by
    cases j with
    | zero => simp [Nat.testBit_zero]
    | succ j => simp [Nat.testBit_succ, show (2 * q + 1) / 2 = q by omega, show 2 * q / 2 = q by omega]
  have hz0 : (2 * q).testBit 0 = false := by simp [Nat.testBit_zero]
  refine ⟨hk, ?_, ?_, ?_, ?_⟩
  · exact Nat.lt_of_le_of_lt Nat.and_le_right (by omega)
  · rw [t1, if_neg (by omega), Nat.sub_self, hz]; rfl
  · intro i hi; rw [t1, if_pos hi]
  · intro i
    rw [Nat.testBit_and, t1, t2]
    by_cases hi : i < k
    · rw [if_pos hi, if_pos hi]; rfl
    · rw [if_neg hi, if_neg hi, hz]
      by_cases hik : i = k
      · subst hik; rw [Nat.sub_self, hz0]; simp
      · have : ¬ (i - k = 0) := by omega
        simp [this, hik]
theorem bitsL_first {m : Nat} (h0 : 0 < m) (h1 : m < 2 ^ 48) : Lib.ctz 64 m < 48 ∧ bitsL m = Lib.ctz 64 m :: bitsL (m &&& (m - 1)) := by
  obtain ⟨a1, _, a3, a4, a5⟩ := least_bit h0 (Nat.lt_of_lt_of_le h1 (by decide))
  have hk : Lib.ctz 64 m < 48 := by
    refine Nat.not_le.1 fun h => ?_
    have : m.testBit (Lib.ctz 64 m) = false := Nat.testBit_lt_two_pow (Nat.lt_of_lt_of_le h1 (Nat.pow_le_pow_right (by omega) h))
    rw [this] at a3
    cases a3
  exact ⟨hk, filter_first _ _ _ a3 a4 a5 48 hk⟩
end Go.Proofs.YtlnbglpddpgooaaDoor

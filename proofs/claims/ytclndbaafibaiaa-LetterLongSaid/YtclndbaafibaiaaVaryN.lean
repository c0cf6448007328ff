/- Plain facts on the numbers of layer 22, on: what is read, bounds, all numbers of a text, the rising ones. No program in sight. By the prover of this repo. -/
import Derived.Test.YtclndbaafibaiaaVaryM
namespace Go.Proofs.Ytclndbaafibaiaa
namespace VaryM

theorem getGo_facts : ∀ (l : List UInt8) (i n : Nat), i ≤ 9 → n < 128 ^ i →
    (getGo i n (128 ^ i) l).1 < 9223372036854775808 ∧ ((getGo i n (128 ^ i) l).2.2 = 0 → i + 1 ≤ (getGo i n (128 ^ i) l).2.1 ∧ (getGo i n (128 ^ i) l).2.1 ≤ i + l.length ∧ (getGo i n (128 ^ i) l).2.1 ≤ 9) ∧ ((getGo i n (128 ^ i) l).2.2 ≠ 0 → (getGo i n (128 ^ i) l).1 = 0 ∧ (getGo i n (128 ^ i) l).2.1 = 0) ∧ (getGo i n (128 ^ i) l).2.2 ≤ 10
  | [], i, n, _, _ => by
    simp only [getGo]; split <;> simp
  | c :: r, i, n, hi, hn => by
    simp only [getGo]
    split
    · simp
    · split
      · split
        · simp
        · have hp : 128 ^ i ≤ 128 ^ 8 := Nat.pow_le_pow_right (by omega) (by omega)
          rw [show (128 : Nat) ^ 8 = 72057594037927936 from rfl] at hp
          have : c.toNat * 128 ^ i ≤ 127 * 128 ^ i := Nat.mul_le_mul_right _ (by omega)
          simp only [List.length_cons]
          refine ⟨by omega, fun _ => ⟨by omega, by omega, by omega⟩, fun h => absurd rfl h, by omega⟩
      · have hc : c.toNat < 256 := c.toNat_lt
        have h1 : (c.toNat - 128) * 128 ^ i ≤ 127 * 128 ^ i := Nat.mul_le_mul_right _ (by omega)
        have hs : 128 ^ i * 128 = 128 ^ (i + 1) := (Nat.pow_succ ..).symm
        rw [hs]
        have := getGo_facts r (i + 1) (n + (c.toNat - 128) * 128 ^ i) (by omega) (by omega)
        simp only [List.length_cons]
        refine ⟨this.1, fun h => ?_, this.2.2⟩
        have := this.2.1 h
        omega

theorem get_facts (l : List UInt8) : (get l).1 < 9223372036854775808 ∧ ((get l).2.2 = 0 → 1 ≤ (get l).2.1 ∧ (get l).2.1 ≤ l.length ∧ (get l).2.1 ≤ 9) ∧ ((get l).2.2 ≠ 0 → (get l).1 = 0 ∧ (get l).2.1 = 0) ∧ (get l).2.2 ≤ 10 := by
  have := getGo_facts l 0 0 (by omega) (by simp)
  simpa [get] using this

/-- All numbers whose bytes these are, behind those that are read, and what is wrong first. -/
def allGo : Nat → List Int → List UInt8 → List Int × Int
  | 0, acc, _ => (acc, 0)
  | f + 1, acc, l => if l = [] then (acc, 0) else if (get l).2.2 ≠ 0 then ([], (get l).2.2) else allGo f (acc ++ [((get l).1 : Int)]) (l.drop (get l).2.1)
def all (l : List UInt8) : List Int × Int := allGo l.length [] l

theorem allGo_nil (f : Nat) (acc : List Int) : allGo f acc [] = (acc, 0) := by cases f <;> simp [allGo]
theorem allGo_bad {f : Nat} {acc : List Int} {l : List UInt8} (hl : l ≠ []) (h : l.length ≤ f) (e : (get l).2.2 ≠ 0) : allGo f acc l = ([], ((get l).2.2 : Int)) := by
  cases f with
  | zero => exact absurd (List.eq_nil_of_length_eq_zero (by omega)) hl
  | succ f => simp only [allGo]; rw [if_neg hl, if_pos e]
theorem allGo_on {f : Nat} {acc : List Int} {l : List UInt8} (hl : l ≠ []) (h : l.length ≤ f) (e : (get l).2.2 = 0) : ∃ f', f = f' + 1 ∧ (l.drop (get l).2.1).length ≤ f' ∧ allGo f acc l = allGo f' (acc ++ [((get l).1 : Int)]) (l.drop (get l).2.1) := by
  cases f with
  | zero => exact absurd (List.eq_nil_of_length_eq_zero (by omega)) hl
  | succ f =>
    have := (get_facts l).2.1 e
    refine ⟨f, rfl, by simp; omega, ?_⟩
    show (if l = [] then (acc, (0 : Int)) else if (get l).2.2 ≠ 0 then ([], ((get l).2.2 : Int)) else allGo f (acc ++ [((get l).1 : Int)]) (l.drop (get l).2.1)) = _
    rw [if_neg hl, if_neg (by simpa using e)]

/-- The rising numbers that so many bytes' numbers come to, from a place on, behind those that are read and the last of them. -/
def fallGo (l : List UInt8) : Nat → List Int → Nat → Nat → List Int × Int × Int
  | 0, acc, _, at_ => (acc, (at_ : Int), 0)
  | k + 1, acc, last, at_ =>
    if (get (l.drop at_)).2.2 ≠ 0 then ([], 0, ((get (l.drop at_)).2.2 : Int))
    else if (get (l.drop at_)).1 = 0 ∨ 9223372036854775807 - last < (get (l.drop at_)).1 then ([], 0, 10)
    else fallGo l k (acc ++ [((last + (get (l.drop at_)).1 : Nat) : Int)]) (last + (get (l.drop at_)).1) (at_ + (get (l.drop at_)).2.1)
def fall (l : List UInt8) (most : Int) : List Int × Int × Int :=
  if (get l).2.2 ≠ 0 then ([], 0, ((get l).2.2 : Int)) else if most < ((get l).1 : Int) then ([], 0, 13) else fallGo l (get l).1 [] 0 (get l).2.1

theorem fallGo_err {l : List UInt8} {k : Nat} {acc : List Int} {last at_ n s e : Nat} (h : get (l.drop at_) = (n, s, e)) (he : e ≠ 0) : fallGo l (k + 1) acc last at_ = ([], 0, (e : Int)) := by
  simp only [fallGo, h]; rw [if_pos he]
theorem fallGo_form {l : List UInt8} {k : Nat} {acc : List Int} {last at_ n s : Nat} (h : get (l.drop at_) = (n, s, 0)) (hn : n = 0 ∨ 9223372036854775807 - last < n) : fallGo l (k + 1) acc last at_ = ([], 0, 10) := by
  simp only [fallGo, h]; rw [if_neg (by simp), if_pos hn]
theorem fallGo_on {l : List UInt8} {k : Nat} {acc : List Int} {last at_ n s : Nat} (h : get (l.drop at_) = (n, s, 0)) (hn : ¬ (n = 0 ∨ 9223372036854775807 - last < n)) :
    fallGo l (k + 1) acc last at_ = fallGo l k (acc ++ [((last + n : Nat) : Int)]) (last + n) (at_ + s) := by
  simp only [fallGo, h]; rw [if_neg (by simp), if_neg hn]
end VaryM
end Go.Proofs.Ytclndbaafibaiaa

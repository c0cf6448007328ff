/- Part 8 of the proof: texts joined by this repo's tools/merge2.py (TwigR TwigR2 VaryM VaryN). By the prover of this repo. -/
import Derived.Test.YteebghoijaaakaaGreatM6
import Derived.Test.YteebghoijaaakaaGreatRows
set_option linter.unusedVariables false
set_option linter.unusedSimpArgs false
/- The walks of layer 2's reference: each function of the package dewpondref02, once, by what it computes. By the prover of this repo. -/
namespace Go.Proofs.YteebghoijaaakaaGreat
open Go.RowKit
open TwigM

theorem rpower (n : Int) (w : World) (h : n ≤ 62) : Calls Tryz.prog 70 #[.int .i64 n] w fun e w' => e = .returned (.int .i64 (pw n)) ∧ w = w' := by
  go_enter Tryz.func70, Tryz.ntmps70
  go_wp2
  go_loop [3, 4] (fun p i => ∃ k : Int, 0 ≤ k ∧ (k ≤ n ∨ k = 0) ∧ i = .int .i64 k ∧ p = .int .i64 (pw k)) (fun _ i => (n - intOf i).toNat)
  case atStart => exact ⟨0, by omega, .inr rfl, rfl, rfl⟩
  case round =>
    obtain ⟨k, hk0, hk, rfl, rfl⟩ := hrel
    have hp := pw_pos k
    have hs := hide (pw_succ hk0)
    by_cases hlt : k < n
    · have hp2 := pw_le62 (show k ≤ 61 + 1 by omega)
      have hp3 := pw_mono (show k ≤ 61 by omega)
      have h61 : pw 61 = 2305843009213693952 := rfl
      have hp4 : pw k ≤ 2305843009213693952 := by omega
      clear hk h61 hp3
      go_wp2
      go_round
      case rel => exact ⟨k + 1, by omega, .inl (by omega), rfl, int_congr (by rw [hs.out])⟩
      case measure => simp [intOf]; omega
    · have hk2 : Hid (pw k = pw n) := by
        show _ = _
        rcases hk with hk | hk
        · rw [show k = n by omega]
        · rw [hk, pw_zero, pw_neg (by omega)]
      clear hk
      go_wp2
      go_ret
      exact ⟨ret_congr (int_congr hk2.out), rfl⟩

end Go.Proofs.YteebghoijaaakaaGreat
/- The walks of layer 2's reference, on: leaves, ends, ways up, and where they meet. By the prover of this repo. -/
namespace Go.Proofs.YteebghoijaaakaaGreat
open Go.RowKit
open TwigM

end Go.Proofs.YteebghoijaaakaaGreat
/- Plain facts on the numbers of layer 22: seven bits a byte, and how they are read. No program in sight. By the prover of this repo. -/
namespace Go.Proofs.YteebghoijaaakaaGreat
namespace VaryM

/-- A number's bytes. -/
def enc (n : Nat) : List UInt8 := if n < 128 then [UInt8.ofNat n] else UInt8.ofNat (128 + n % 128) :: enc (n / 128)
termination_by n
decreasing_by omega

theorem enc_lt {n : Nat} (h : n < 128) : enc n = [UInt8.ofNat n] := by rw [enc, if_pos h]
theorem enc_ge {n : Nat} (h : 128 ≤ n) : enc n = UInt8.ofNat (128 + n % 128) :: enc (n / 128) := by rw [enc, if_neg (by omega)]

theorem enc_pos (n : Nat) : 1 ≤ (enc n).length := by
  rw [enc]; split <;> simp
theorem enc_len (k : Nat) : ∀ n, n < 128 ^ (k + 1) → (enc n).length ≤ k + 1 := by
  induction k with
  | zero => intro n h; rw [enc_lt (by simpa using h)]; simp
  | succ k ih =>
    intro n h
    by_cases h1 : n < 128
    · rw [enc_lt h1]; simp
    · rw [enc_ge (by omega)]
      have := ih (n / 128) (by rw [Nat.pow_succ] at h; omega)
      simp; omega
theorem enc_len9 {n : Nat} (h : n ≤ 9223372036854775807) : (enc n).length ≤ 9 := by
  have : (128 : Nat) ^ (8 + 1) = 9223372036854775808 := rfl
  exact enc_len 8 n (by omega)

/-- The bytes of numbers, one behind the other. -/
def encs (f : Nat → Int) : Nat → List UInt8
  | 0 => []
  | k + 1 => encs f k ++ enc (f k).toNat
theorem encs_len {f : Nat → Int} : ∀ k, (∀ i, i < k → f i ≤ 9223372036854775807) → (encs f k).length ≤ 9 * k
  | 0, _ => by simp [encs]
  | k + 1, h => by
    have h1 := encs_len k (fun i hi => h i (by omega))
    have h2 := enc_len9 (n := (f k).toNat) (by have := h k (by omega); omega)
    simp only [encs, List.length_append]
    omega

/-- The number that bytes begin with, from byte i on: what is gathered, what a bit is worth. The number, its bytes, the error. -/
def getGo (i n place : Nat) : List UInt8 → Nat × Nat × Nat
  | [] => if i = 9 then (0, 0, 10) else (0, 0, 9)
  | c :: r =>
    if i = 9 then (0, 0, 10)
    else if c.toNat < 128 then (if 0 < i ∧ c.toNat = 0 then (0, 0, 10) else (n + c.toNat * place, i + 1, 0))
    else getGo (i + 1) (n + (c.toNat - 128) * place) (place * 128) r
def get (l : List UInt8) : Nat × Nat × Nat := getGo 0 0 1 l
end VaryM
end Go.Proofs.YteebghoijaaakaaGreat
/- Plain facts on the numbers of layer 22, on: what is read, bounds, all numbers of a text, the rising ones. No program in sight. By the prover of this repo. -/
namespace Go.Proofs.YteebghoijaaakaaGreat
namespace VaryM

theorem getGo_facts : ∀ (l : List UInt8) (i n : Nat), i ≤ 9 → n < 128 ^ i →
    (getGo i n (128 ^ i) l).1 < 9223372036854775808 ∧ ((getGo i n (128 ^ i) l).2.2 = 0 → i + 1 ≤ (getGo i n (128 ^ i) l).2.1 ∧ (getGo i n (128 ^ i) l).2.1 ≤ i + l.length ∧ (getGo i n (128 ^ i) l).2.1 ≤ 9) ∧ ((getGo i n (128 ^ i) l).2.2 ≠ 0 → (getGo i n (128 ^ i) l).1 = 0 ∧ (getGo i n (128 ^ i) l).2.1 = 0) ∧ (getGo i n (128 ^ i) l).2.2 ≤ 10
  | [], i, n, _, _ => by
    simp only [getGo]; split <;> simp
  | c :: r, i, n, hi, hn => by
    simp only [getGo]
    split
    · simp
    · split
      · split
        · simp
        · have hp : 128 ^ i ≤ 128 ^ 8 := Nat.pow_le_pow_right (by omega) (by omega)
          rw [show (128 : Nat) ^ 8 = 72057594037927936 from rfl] at hp
          have : c.toNat * 128 ^ i ≤ 127 * 128 ^ i := Nat.mul_le_mul_right _ (by omega)
          simp only [List.length_cons]
          refine ⟨by omega, fun _ => ⟨by omega, by omega, by omega⟩, fun h => absurd rfl h, by omega⟩
      · have hc : c.toNat < 256 := c.toNat_lt
        have h1 : (c.toNat - 128) * 128 ^ i ≤ 127 * 128 ^ i := Nat.mul_le_mul_right _ (by omega)
        have hs : 128 ^ i * 128 = 128 ^ (i + 1) := (Nat.pow_succ ..).symm
        rw [hs]
        have := getGo_facts r (i + 1) (n + (c.toNat - 128) * 128 ^ i) (by omega) (by omega)
        simp only [List.length_cons]
        refine ⟨this.1, fun h => ?_, this.2.2⟩
        have := this.2.1 h
        omega

theorem get_facts (l : List UInt8) : (get l).1 < 9223372036854775808 ∧ ((get l).2.2 = 0 → 1 ≤ (get l).2.1 ∧ (get l).2.1 ≤ l.length ∧ (get l).2.1 ≤ 9) ∧ ((get l).2.2 ≠ 0 → (get l).1 = 0 ∧ (get l).2.1 = 0) ∧ (get l).2.2 ≤ 10 := by
  have := getGo_facts l 0 0 (by omega) (by simp)
  simpa [get] using this

/-- All numbers whose bytes these are, behind those that are read, and what is wrong first. -/
def allGo : Nat → List Int → List UInt8 → List Int × Int
  | 0, acc, _ => (acc, 0)
  | f + 1, acc, l => if l = [] then (acc, 0) else if (get l).2.2 ≠ 0 then ([], (get l).2.2) else allGo f (acc ++ [((get l).1 : Int)]) (l.drop (get l).2.1)
def all (l : List UInt8) : List Int × Int := allGo l.length [] l

theorem allGo_nil (f : Nat) (acc : List Int) : allGo f acc [] = (acc, 0) := by cases f <;> simp [allGo]
theorem allGo_bad {f : Nat} {acc : List Int} {l : List UInt8} (hl : l ≠ []) (h : l.length ≤ f) (e : (get l).2.2 ≠ 0) : allGo f acc l = ([], ((get l).2.2 : Int)) := by
  cases f with
  | zero => exact absurd (List.eq_nil_of_length_eq_zero (by omega)) hl
  | succ f => simp only [allGo]; rw [if_neg hl, if_pos e]
theorem allGo_on {f : Nat} {acc : List Int} {l : List UInt8} (hl : l ≠ []) (h : l.length ≤ f) (e : (get l).2.2 = 0) : ∃ f', f = f' + 1 ∧ (l.drop (get l).2.1).length ≤ f' ∧ allGo f acc l = allGo f' (acc ++ [((get l).1 : Int)]) (l.drop (get l).2.1) := by
  cases f with
  | zero => exact absurd (List.eq_nil_of_length_eq_zero (by omega)) hl
  | succ f =>
    have := (get_facts l).2.1 e
    refine ⟨f, rfl, by simp; omega, ?_⟩
    show (if l = [] then (acc, (0 : Int)) else if (get l).2.2 ≠ 0 then ([], ((get l).2.2 : Int)) else allGo f (acc ++ [((get l).1 : Int)]) (l.drop (get l).2.1)) = _
    rw [if_neg hl, if_neg (by simpa using e)]

/-- The rising numbers that so many bytes' numbers come to, from a place on, behind those that are read and the last of them. -/
def fallGo (l : List UInt8) : Nat → List Int → Nat → Nat → List Int × Int × Int
  | 0, acc, _, at_ => (acc, (at_ : Int), 0)
  | k + 1, acc, last, at_ =>
    if (get (l.drop at_)).2.2 ≠ 0 then ([], 0, ((get (l.drop at_)).2.2 : Int))
    else if (get (l.drop at_)).1 = 0 ∨ 9223372036854775807 - last < (get (l.drop at_)).1 then ([], 0, 10)
    else fallGo l k (acc ++ [((last + (get (l.drop at_)).1 : Nat) : Int)]) (last + (get (l.drop at_)).1) (at_ + (get (l.drop at_)).2.1)
def fall (l : List UInt8) (most : Int) : List Int × Int × Int :=
  if (get l).2.2 ≠ 0 then ([], 0, ((get l).2.2 : Int)) else if most < ((get l).1 : Int) then ([], 0, 13) else fallGo l (get l).1 [] 0 (get l).2.1

theorem fallGo_err {l : List UInt8} {k : Nat} {acc : List Int} {last at_ n s e : Nat} (h : get (l.drop at_) = (n, s, e)) (he : e ≠ 0) : fallGo l (k + 1) acc last at_ = ([], 0, (e : Int)) := by
  simp only [fallGo, h]; rw [if_pos he]
theorem fallGo_form {l : List UInt8} {k : Nat} {acc : List Int} {last at_ n s : Nat} (h : get (l.drop at_) = (n, s, 0)) (hn : n = 0 ∨ 9223372036854775807 - last < n) : fallGo l (k + 1) acc last at_ = ([], 0, 10) := by
  simp only [fallGo, h]; rw [if_neg (by simp), if_pos hn]
theorem fallGo_on {l : List UInt8} {k : Nat} {acc : List Int} {last at_ n s : Nat} (h : get (l.drop at_) = (n, s, 0)) (hn : ¬ (n = 0 ∨ 9223372036854775807 - last < n)) :
    fallGo l (k + 1) acc last at_ = fallGo l k (acc ++ [((last + n : Nat) : Int)]) (last + n) (at_ + s) := by
  simp only [fallGo, h]; rw [if_neg (by simp), if_neg hn]
end VaryM
end Go.Proofs.YteebghoijaaakaaGreat

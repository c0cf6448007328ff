/- Whole numbers below 2^53 as floats of 64 bits: how they stand to each other, and how they are read back. Plain facts. By the prover of this repo. -/
import Derived.Laws.ComplexArith
import Derived.WalkKit
namespace Go.Proofs.Ytbibchdjojmpaaa
namespace FloatM
open Ieee

/-- A whole number as a float. -/
abbrev fl (n : Int) : Nat := floatOfInt .f64 n

def place (n : Nat) : Int := if n = 0 then -1074 else (n.log2 : Int) - 52
def mag (n : Nat) : Nat := if n = 0 then 0 else n * 2 ^ (52 - n.log2)

theorem log2_bounds (n : Nat) (h0 : n ≠ 0) (h : n < 9007199254740992) : 2 ^ n.log2 ≤ n ∧ n < 2 ^ (n.log2 + 1) ∧ n.log2 ≤ 52 := by
  have h1 := Nat.log2_self_le h0
  have h2 := @Nat.lt_log2_self n
  refine ⟨h1, h2, ?_⟩
  refine Nat.le_of_lt_succ ((Nat.pow_lt_pow_iff_right (a := 2) (by omega)).1 (Nat.lt_of_le_of_lt h1 (Nat.lt_of_lt_of_le h (by decide +kernel))))

theorem mag_bounds (n : Nat) (h0 : n ≠ 0) (h : n < 9007199254740992) : 4503599627370496 ≤ mag n ∧ mag n < 9007199254740992 := by
  obtain ⟨h1, h2, h3⟩ := log2_bounds n h0 h
  unfold mag
  rw [if_neg h0]
  have e1 : 2 ^ n.log2 * 2 ^ (52 - n.log2) = 4503599627370496 := by rw [← Nat.pow_add, show n.log2 + (52 - n.log2) = 52 by omega]
  have e2 : 2 ^ (n.log2 + 1) * 2 ^ (52 - n.log2) = 9007199254740992 := by rw [← Nat.pow_add, show n.log2 + 1 + (52 - n.log2) = 53 by omega]
  have p := Nat.two_pow_pos (52 - n.log2)
  constructor
  · rw [← e1]; exact Nat.mul_le_mul_right _ h1
  · rw [← e2]; exact Nat.mul_lt_mul_of_pos_right h2 p

theorem least : double.leastPlace = -1074 := by decide +kernel
theorem binade : double.binade = 4503599627370496 := by decide +kernel
theorem infr : double.infRung = 9218868437227405312 := by decide +kernel
theorem signw : double.signWeight = 9223372036854775808 := by decide +kernel

theorem cut0 (x : Nat) : Toward.even.cut false x 0 = x := by
  unfold Toward.cut
  have e1 : x % 1 = 0 := Nat.mod_one x
  simp [e1]

theorem word_le (L M : Nat) (h1 : L ≤ 52) (h2 : M < 9007199254740992) : double.word false (min ((L + 1022) * 4503599627370496 + M) 9218868437227405312) = (L + 1022) * 4503599627370496 + M := by
  unfold Format.word
  rw [if_neg (by simp), Nat.min_eq_left (by omega)]
theorem nearest_step (n : Nat) (h0 : n ≠ 0) (last : Int) (hlast : max ((0 : Int) + (n.log2 : Int) - (double.fractionBits : Int)) double.leastPlace = last) :
    double.nearest false n 0 = double.word false (min ((last - double.leastPlace).toNat * double.binade + Toward.even.cut false (n <<< (0 - last).toNat) (last - 0).toNat) double.infRung) := by
  unfold Format.nearest
  rw [if_neg h0]
  show double.word false _ = _
  rw [← hlast]
theorem nearest_word (n : Nat) (h0 : n ≠ 0) (h : n < 9007199254740992) : double.nearest false n 0 = (n.log2 + 1022) * 4503599627370496 + mag n := by
  obtain ⟨h1, h2, h3⟩ := log2_bounds n h0 h
  have hm := (mag_bounds n h0 h).2
  have hlast : max ((0 : Int) + (n.log2 : Int) - (double.fractionBits : Int)) double.leastPlace = (n.log2 : Int) - 52 := by
    rw [least, show (double.fractionBits : Int) = 52 from rfl]; omega
  rw [nearest_step n h0 _ hlast, least, binade, infr]
  have e1 : ((0 : Int) - ((n.log2 : Int) - 52)).toNat = 52 - n.log2 := by omega
  have e2 : ((n.log2 : Int) - 52 - 0).toNat = 0 := by omega
  have e3 : ((n.log2 : Int) - 52 - -1074).toNat = n.log2 + 1022 := by omega
  rw [e1, e2, e3, cut0, Nat.shiftLeft_eq]
  have e4 : n * 2 ^ (52 - n.log2) = mag n := by unfold mag; rw [if_neg h0]
  rw [e4]
  exact word_le _ _ h3 hm

theorem read_step (r : Nat) (h1 : r < 9218868437227405312) (h2 : 4503599627370496 ≤ r) : double.read r = .number false (4503599627370496 + r % 4503599627370496) (-1074 + (r / 4503599627370496 - 1 : Nat)) := by
  have e1 : (r / double.signWeight % 2 == 1) = false := by rw [signw]; simp; omega
  have e2 : r % double.signWeight = r := by rw [signw]; omega
  have e3 : double.read r = (let neg := r / double.signWeight % 2 == 1
    let rung := r % double.signWeight
    if rung < double.binade then .number neg rung double.leastPlace
    else if rung < double.infRung then .number neg (double.binade + rung % double.binade) (double.leastPlace + (rung / double.binade - 1 : Nat))
    else if rung = double.infRung then .infinity neg
    else .nan neg (rung - double.infRung)) := rfl
  rw [e3, e1, e2, binade, infr, least]
  show (if r < 4503599627370496 then _ else _) = _
  rw [if_neg (by omega), if_pos h1]

theorem read_word (n : Nat) (h : n < 9007199254740992) : double.read (double.nearest false n 0) = .number false (mag n) (place n) := by
  by_cases h0 : n = 0
  · subst h0
    decide +kernel
  · obtain ⟨_, _, h3⟩ := log2_bounds n h0 h
    have hm := mag_bounds n h0 h
    rw [nearest_word n h0 h]
    generalize hM : mag n = M at *
    rw [read_step _ (by omega) (by omega)]
    have e3 : ((n.log2 + 1022) * 4503599627370496 + M) / 4503599627370496 = n.log2 + 1023 := by omega
    have e4 : ((n.log2 + 1022) * 4503599627370496 + M) % 4503599627370496 = M - 4503599627370496 := by omega
    rw [e3, e4]
    have e5 : 4503599627370496 + (M - 4503599627370496) = M := by omega
    have e6 : (-1074 : Int) + ((n.log2 + 1023 - 1 : Nat) : Int) = place n := by unfold place; rw [if_neg h0]; omega
    rw [e5, e6]

theorem fl_nat (n : Nat) : fl (n : Int) = double.nearest false n 0 := by
  unfold fl floatOfInt FloatKind.nearest FloatKind.encode
  have : decide ((n : Int) < 0) = false := by simp
  rw [this]
  simp [Format.write, FloatKind.format]

theorem place_le (n : Nat) (h : n < 9007199254740992) : place n ≤ 0 := by
  unfold place
  split
  · omega
  · rename_i h0
    have := (log2_bounds n h0 h).2.2
    omega

/-- What a number's magnitude comes to at a lower place. -/
theorem mag_at (n : Nat) (h : n < 9007199254740992) (b : Int) (hb : b ≤ place n) : mag n <<< (place n - b).toNat = n * 2 ^ (-b).toNat := by
  have hp := place_le n h
  rw [Nat.shiftLeft_eq]
  by_cases h0 : n = 0
  · subst h0; simp [mag]
  · have h3 := (log2_bounds n h0 h).2.2
    unfold mag place at *
    rw [if_neg h0] at *
    rw [Nat.mul_assoc, ← Nat.pow_add]
    congr 2
    omega

theorem order_fl (a b : Nat) (ha : a < 9007199254740992) (hb : b < 9007199254740992) : FloatKind.f64.format.order (fl a) (fl b) = some (compare a b) := by
  show double.order (fl a) (fl b) = _
  unfold Format.order
  rw [fl_nat, fl_nat, read_word a ha, read_word b hb]
  unfold Datum.order
  dsimp only
  rw [show min (place a) (place b) = min (place a) (place b) from rfl]
  generalize hB : min (place a) (place b) = B
  have b1 : B ≤ place a := by omega
  have b2 : B ≤ place b := by omega
  unfold signed
  simp only [Bool.false_eq_true, if_false]
  rw [mag_at a ha B b1, mag_at b hb B b2]
  congr 1
  have p := Nat.two_pow_pos (-B).toNat
  generalize 2 ^ (-B).toNat = k at p
  show compareOfLessAndEq (((a * k : Nat)) : Int) ((b * k : Nat) : Int) = compareOfLessAndEq a b
  unfold compareOfLessAndEq
  have l1 : (((a * k : Nat)) : Int) < ((b * k : Nat) : Int) ↔ a < b := by rw [Int.ofNat_lt]; exact Nat.mul_lt_mul_right p
  have l2 : (((a * k : Nat)) : Int) = ((b * k : Nat) : Int) ↔ a = b := by
    rw [Int.ofNat_inj]
    exact ⟨fun h => Nat.eq_of_mul_eq_mul_right p h, fun h => by rw [h]⟩
  simp only [l1, l2]

theorem toInt_fl (n : Nat) (h : n < 9007199254740992) : floatToIntVal .f64 (fl n) .i64 = some (n : Int) := by
  have hr := read_word n h
  rw [← fl_nat] at hr
  have hcut : Toward.zero.cut false (mag n <<< (place n).toNat) (-(place n)).toNat = n := by
    have hp := place_le n h
    have e1 : (place n).toNat = 0 := by omega
    rw [e1]
    by_cases h0 : n = 0
    · subst h0; decide +kernel
    · obtain ⟨_, _, h3⟩ := log2_bounds n h0 h
      have hm := mag_bounds n h0 h
      have hl : 52 ≤ (mag n).log2 := (Nat.le_log2 (by omega)).2 hm.1
      unfold Toward.cut
      simp only [Nat.shiftLeft_zero]
      have e2 : min (-(place n)).toNat ((mag n).log2 + 2) = 52 - n.log2 := by unfold place; rw [if_neg h0]; omega
      rw [e2, Nat.shiftLeft_eq, Nat.one_mul]
      have e3 : mag n = n * 2 ^ (52 - n.log2) := by unfold mag; rw [if_neg h0]
      rw [e3, Nat.mul_div_cancel _ (Nat.two_pow_pos _)]
      simp
  unfold floatToIntVal FloatKind.decode
  rw [show FloatKind.f64.format = double from rfl, hr]
  unfold Datum.toInt Datum.integral
  dsimp only
  rw [hcut]
  have m1 : IntKind.i64.min = -9223372036854775808 := rfl
  have m2 : IntKind.i64.max = 9223372036854775807 := rfl
  rw [m1, m2]
  have e : signed false n 0 = (n : Int) := by simp [signed]
  rw [e, if_pos (by omega)]
end FloatM
end Go.Proofs.Ytbibchdjojmpaaa

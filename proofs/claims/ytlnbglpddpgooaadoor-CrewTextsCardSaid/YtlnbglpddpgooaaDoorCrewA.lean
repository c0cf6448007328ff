/- The first walks of layer 27: whether a number is a sensor, whether a set has it, whether it has sensors alone; and the reference's. By the prover of this repo. -/
import Derived.Test.YtlnbglpddpgooaaDoorBits
namespace Go.Proofs.YtlnbglpddpgooaaDoor
open Go.RowKit

theorem toNat_u64 (a : Nat) (ha : a < 18446744073709551616) : (BitVec.ofInt 64 (a : Int)).toNat = a := by
  rw [BitVec.ofInt_natCast, BitVec.toNat_ofNat]
  exact Nat.mod_eq_of_lt (by omega)
theorem and_u64 (a b : Nat) (ha : a < 18446744073709551616) (hb : b < 18446744073709551616) : bits .and .u64 (a : Int) (b : Int) = ((a &&& b : Nat) : Int) := by
  have hx : a &&& b < 2 ^ 64 := Nat.and_lt_two_pow _ (by omega)
  have e : (BitVec.ofInt 64 (a : Int) &&& BitVec.ofInt 64 (b : Int)).toNat = a &&& b := by rw [BitVec.toNat_and, toNat_u64 a ha, toNat_u64 b hb]
  show IntKind.u64.wrap ((BitVec.ofInt 64 (a : Int) &&& BitVec.ofInt 64 (b : Int)).toNat : Int) = _
  rw [e, IntKind.wrap_u64]
  omega
theorem and_one64 (x : Int) (h0 : 0 ≤ x) (h1 : x < 18446744073709551616) : bits .and .u64 x 1 = x % 2 := by
  obtain ⟨n, rfl⟩ := Int.eq_ofNat_of_zero_le h0
  have := and_u64 n 1 (by omega) (by omega)
  rw [show ((1 : Nat) : Int) = 1 from rfl] at this
  rw [this, Nat.and_one_is_mod]
  omega

theorem beq_dec (a b : Int) : (a == b) = decide (a = b) := by rw [Bool.eq_iff_iff]; simp
/-- Whether a set has a sensor. -/
def hasF (s i : Int) : Bool := decide (0 ≤ i ∧ i < 48 ∧ s / 2 ^ i.toNat % 2 = 1)

theorem crew_is (i : Int) (w : World) : Calls Tryd.prog 34 #[.int .i64 i] w fun e w' => e = .returned (.bool (decide (0 ≤ i ∧ i < 48))) ∧ w = w' := by
  by_cases h0 : 0 ≤ i
  · by_cases h1 : i < 48
    · rw [decide_eq_true ⟨h0, h1⟩]
      go_enter Tryd.func34, Tryd.ntmps34
      go_wp2_with fail
      go_ret
      exact ⟨rfl, rfl⟩
    · rw [decide_eq_false (fun h => h1 h.2)]
      go_enter Tryd.func34, Tryd.ntmps34
      go_wp2_with fail
      go_ret
      exact ⟨rfl, rfl⟩
  · rw [decide_eq_false (fun h => h0 h.1)]
    go_enter Tryd.func34, Tryd.ntmps34
    go_wp2_with fail
    go_ret
    exact ⟨rfl, rfl⟩
theorem ref27_is (i : Int) (w : World) : Calls Tryd.prog 33 #[.int .i64 i] w fun e w' => e = .returned (.bool (decide (0 ≤ i ∧ i < 48))) ∧ w = w' := by
  by_cases h0 : 0 ≤ i
  · by_cases h1 : i < 48
    · rw [decide_eq_true ⟨h0, h1⟩]
      go_enter Tryd.func33, Tryd.ntmps33
      go_wp2_with fail
      go_ret
      exact ⟨rfl, rfl⟩
    · rw [decide_eq_false (fun h => h1 h.2)]
      go_enter Tryd.func33, Tryd.ntmps33
      go_wp2_with fail
      go_ret
      exact ⟨rfl, rfl⟩
  · rw [decide_eq_false (fun h => h0 h.1)]
    go_enter Tryd.func33, Tryd.ntmps33
    go_wp2_with fail
    go_ret
    exact ⟨rfl, rfl⟩
theorem crew_right (s : Int) (w : World) : Calls Tryd.prog 20 #[.int .u64 s] w fun e w' => e = .returned (.bool (decide (s < 281474976710656))) ∧ w = w' := by
  by_cases h : s < 281474976710656
  · rw [decide_eq_true h]
    go_enter Tryd.func20, Tryd.ntmps20
    go_wp2_with fail
    go_ret
    exact ⟨ret_congr (bool_true (by omega)), rfl⟩
  · rw [decide_eq_false h]
    go_enter Tryd.func20, Tryd.ntmps20
    go_wp2_with fail
    go_ret
    exact ⟨ret_congr (bool_false (by omega)), rfl⟩

theorem pow_i (k : Nat) : (2 : Int) ^ k = ((2 ^ k : Nat) : Int) := by simp
theorem ref27_bit (i : Int) (w : World) (h0 : 0 ≤ i) (h1 : i ≤ 48) : Calls Tryd.prog 29 #[.int .i64 i] w fun e w' => e = .returned (.int .u64 (2 ^ i.toNat)) ∧ w = w' := by
  obtain ⟨m, rfl⟩ := Int.eq_ofNat_of_zero_le h0
  rw [Int.toNat_natCast]
  go_enter Tryd.func29, Tryd.ntmps29
  go_wp2_with fail
  go_loop [3, 4] (fun x y => ∃ k p : Nat, x = .int .u64 p ∧ y = .int .i64 k ∧ k ≤ m ∧ Hid (p = 2 ^ k)) (fun _ y => m - (intOf y).toNat)
  case atStart => exact ⟨0, 1, rfl, rfl, by omega, rfl⟩
  case round =>
    obtain ⟨k, p, rfl, rfl, hk, hp⟩ := hrel
    by_cases hlt : k < m
    · have hple : p ≤ 2 ^ 48 := by rw [hp.out]; exact Nat.pow_le_pow_right (by omega) (by omega)
      rw [show (2 : Nat) ^ 48 = 281474976710656 from rfl] at hple
      go_wp2_with fail
      go_round
      case rel => exact ⟨k + 1, 2 * p, by go_num, by go_num, by omega, by show _ = _; rw [hp.out, Nat.pow_succ]; omega⟩
      case measure => simp [intOf]; omega
    · obtain rfl : k = m := by omega
      go_wp2_with fail
      go_ret
      exact ⟨ret_congr (int_congr (by rw [hp.out, pow_i])), rfl⟩

theorem crew_has (s i : Int) (w : World) (h0 : 0 ≤ s) (h1 : s < 18446744073709551616) : Calls Tryd.prog 22 #[.int .u64 s, .int .i64 i] w fun e w' => e = .returned (.bool (hasF s i)) ∧ w = w' := by
  by_cases h : 0 ≤ i ∧ i < 48
  · obtain ⟨h2, h3⟩ := h
    have hb : bits .and .u64 (s / 2 ^ i.toNat) 1 = s / 2 ^ i.toNat % 2 := by
      have hp : (1 : Int) ≤ 2 ^ i.toNat := by rw [pow_i]; have := Nat.one_le_two_pow (n := i.toNat); omega
      exact and_one64 _ (Int.ediv_nonneg h0 (by omega)) (by have := Int.ediv_le_self (2 ^ i.toNat) h0; omega)
    have hF : hasF s i = decide (s / 2 ^ i.toNat % 2 = 1) := by unfold hasF; simp [h2, h3]
    go_enter Tryd.func22, Tryd.ntmps22
    go_wp2_with (go_at_call 34; refine (crew_is i _).mono ?_; rw [decide_eq_true ⟨h2, h3⟩]; rintro e w1 ⟨rfl, rfl⟩)
    go_ret
    refine ⟨ret_congr ?_, rfl⟩
    rw [hF]
    exact bool_congr (beq_dec _ _)
  · have hF : hasF s i = false := by unfold hasF; exact decide_eq_false fun h2 => h ⟨h2.1, h2.2.1⟩
    rw [hF]
    go_enter Tryd.func22, Tryd.ntmps22
    go_wp2_with (go_at_call 34; refine (crew_is i _).mono ?_; rw [decide_eq_false h]; rintro e w1 ⟨rfl, rfl⟩)
    go_ret
    exact ⟨rfl, rfl⟩

theorem ref27_right (s : Int) (w : World) : Calls Tryd.prog 21 #[.int .u64 s] w fun e w' => e = .returned (.bool (decide (s < 281474976710656))) ∧ w = w' := by
  have hb := fun W => ref27_bit 48 W (by omega) (by omega)
  rw [show (2 : Int) ^ (48 : Int).toNat = 281474976710656 from rfl] at hb
  replace hb := hide hb
  go_enter Tryd.func21, Tryd.ntmps21
  go_wp2_with (go_at_call 29; refine (hb.out _).mono ?_; rintro e w1 ⟨rfl, rfl⟩)
  go_ret
  exact ⟨rfl, rfl⟩

theorem ref27_has (s i : Int) (w : World) (h0 : 0 ≤ s) (h1 : s < 18446744073709551616) : Calls Tryd.prog 23 #[.int .u64 s, .int .i64 i] w fun e w' => e = .returned (.bool (hasF s i)) ∧ w = w' := by
  by_cases h : 0 ≤ i ∧ i < 48
  · obtain ⟨h2, h3⟩ := h
    have hp : (1 : Int) ≤ 2 ^ i.toNat := by rw [pow_i]; have := Nat.one_le_two_pow (n := i.toNat); omega
    have hF : hasF s i = decide (s / 2 ^ i.toNat % 2 = 1) := by unfold hasF; simp [h2, h3]
    have hbit := fun W => ref27_bit i W h2 (by omega)
    have hq0 : 0 ≤ s / 2 ^ i.toNat := Int.ediv_nonneg h0 (by omega)
    have hq1 : s / 2 ^ i.toNat ≤ s := Int.ediv_le_self _ h0
    replace hF := hide hF
    generalize (2 : Int) ^ i.toNat = p at hbit hp hF hq0 hq1
    replace hbit := hide hbit
    go_enter Tryd.func23, Tryd.ntmps23
    go_wp2_with (first
      | (go_at_call 33; refine (ref27_is i _).mono ?_; rw [decide_eq_true ⟨h2, h3⟩]; rintro e w1 ⟨rfl, rfl⟩)
      | (go_at_call 29; refine (hbit.out _).mono ?_; rintro e w1 ⟨rfl, rfl⟩))
    go_ret
    refine ⟨ret_congr ?_, rfl⟩
    rw [hF.out]
    exact bool_congr (beq_dec _ _)
  · have hF : hasF s i = false := by unfold hasF; exact decide_eq_false fun h2 => h ⟨h2.1, h2.2.1⟩
    rw [hF]
    go_enter Tryd.func23, Tryd.ntmps23
    go_wp2_with (go_at_call 33; refine (ref27_is i _).mono ?_; rw [decide_eq_false h]; rintro e w1 ⟨rfl, rfl⟩)
    go_ret
    exact ⟨rfl, rfl⟩
end Go.Proofs.YtlnbglpddpgooaaDoor

/- The walks of layer 3: spans of whole numbers, as complex numbers. By the prover of this repo. -/
import Derived.Test.YtbibchdjojmpaaaFloatM
import Derived.Test.YtbibchdjojmpaaaTwigW
import Derived.Test.YtbibchdjojmpaaaTwigR2
namespace Go.Proofs.Ytbibchdjojmpaaa
open Go.RowKit
open FloatM TwigM

/-- A span from one whole number to another one. -/
abbrev cx (a b : Int) : Value := .complex .f64 (fl a) (fl b)
theorem fl0 : fl 0 = 0 := by decide +kernel
theorem flLast : fl 281474976710655 = 4823355200913801184 := by decide +kernel

theorem order_int (a b : Int) (ha : 0 ≤ a) (ha1 : a ≤ 281474976710655) (hb : 0 ≤ b) (hb1 : b ≤ 281474976710655) : FloatKind.f64.format.order (fl a) (fl b) = some (compare a b) := by
  obtain ⟨n, rfl⟩ := Int.eq_ofNat_of_zero_le ha
  obtain ⟨m, rfl⟩ := Int.eq_ofNat_of_zero_le hb
  rw [order_fl n m (by omega) (by omega)]
  show some (compareOfLessAndEq n m) = some (compareOfLessAndEq (n : Int) (m : Int))
  unfold compareOfLessAndEq
  simp only [Int.ofNat_lt, Int.ofNat_inj]
theorem order_lt {a b : Int} (ha : 0 ≤ a) (hb1 : b ≤ 281474976710655) (h : a < b) : FloatKind.f64.format.order (fl a) (fl b) = some .lt := by
  rw [order_int a b ha (by omega) (by omega) hb1]
  show some (compareOfLessAndEq a b) = _
  unfold compareOfLessAndEq
  rw [if_pos h]
theorem order_gt {a b : Int} (hb : 0 ≤ b) (ha1 : a ≤ 281474976710655) (h : b < a) : FloatKind.f64.format.order (fl a) (fl b) = some .gt := by
  rw [order_int a b (by omega) ha1 hb (by omega)]
  show some (compareOfLessAndEq a b) = _
  unfold compareOfLessAndEq
  rw [if_neg (by omega), if_neg (by omega)]
theorem order_eq {a : Int} (ha : 0 ≤ a) (ha1 : a ≤ 281474976710655) : FloatKind.f64.format.order (fl a) (fl a) = some .eq := by
  rw [order_int a a ha ha1 ha ha1]
  show some (compareOfLessAndEq a a) = _
  unfold compareOfLessAndEq
  rw [if_neg (by omega), if_pos rfl]
theorem back_int (n : Int) (h0 : 0 ≤ n) (h1 : n ≤ 281474976710655) (w : World) : (convert 25 3 (.float .f64 (fl n))).run Try.prog w = .ok (.int .i64 n) w := by
  refine run_convert_float_int w _ _ .f64 .i64 _ n (by kernel_rfl) Try.underlying3 ?_
  obtain ⟨m, rfl⟩ := Int.eq_ofNat_of_zero_le h0
  exact toInt_fl m (by omega)

theorem whole_yes (n : Int) (w : World) (h0 : 0 ≤ n) (h1 : n ≤ 281474976710655) : Calls Try.prog 56 #[.float .f64 (fl n)] w fun e w' => e = .returned (.bool true) ∧ w = w' := by
  have hc := back_int n h0 h1
  have he := order_eq h0 h1
  by_cases a0 : n = 0
  · have o1 : FloatKind.f64.format.order (fl n) 0 = some .eq := by rw [a0, fl0]; decide +kernel
    have o2 : FloatKind.f64.format.order (fl n) 4823355200913801184 = some .lt := by rw [a0, fl0]; decide +kernel
    unfold fl at *
    clear a0
    go_enter Try.func56, Try.ntmps56
    go_wp2
    go_ret
    exact ⟨rfl, rfl⟩
  · have o1 : FloatKind.f64.format.order (fl n) 0 = some .gt := by rw [← fl0]; exact order_gt (by omega) h1 (by omega)
    by_cases a1 : n = 281474976710655
    · have o2 : FloatKind.f64.format.order (fl n) 4823355200913801184 = some .eq := by rw [a1, flLast]; decide +kernel
      unfold fl at *
      clear a0 a1
      go_enter Try.func56, Try.ntmps56
      go_wp2
      go_ret
      exact ⟨rfl, rfl⟩
    · have o2 : FloatKind.f64.format.order (fl n) 4823355200913801184 = some .lt := by rw [← flLast]; exact order_lt h0 (by omega) (by omega)
      unfold fl at *
      clear a0 a1
      go_enter Try.func56, Try.ntmps56
      go_wp2
      go_ret
      exact ⟨rfl, rfl⟩

theorem span_right (a b : Int) (w : World) (h0 : 0 ≤ a) (h1 : a ≤ b) (h2 : b ≤ 281474976710655) : Calls Try.prog 35 #[cx a b] w fun e w' => e = .returned (.bool true) ∧ w = w' := by
  have ha := hide (fun W => whole_yes a W h0 (by omega))
  have hb := hide (fun W => whole_yes b W (by omega) h2)
  have ho : FloatKind.f64.format.order (fl a) (fl b) = some .lt ∨ FloatKind.f64.format.order (fl a) (fl b) = some .eq := by
    by_cases h : a = b
    · subst h; exact .inr (order_eq h0 (by omega))
    · exact .inl (order_lt h0 h2 (by omega))
  unfold cx
  generalize fl a = x at *
  generalize fl b = y at *
  rcases ho with ho | ho
  all_goals
    go_enter Try.func35, Try.ntmps35
    go_wp2_with fail
    refine (ha.out _).mono ?_
    rintro e w1 ⟨rfl, rfl⟩
    go_wp2_with fail
    refine (hb.out _).mono ?_
    rintro e w1 ⟨rfl, rfl⟩
    go_wp2_with fail
    go_ret
    exact ⟨rfl, rfl⟩

theorem span_made (a b : Int) (w : World) : Calls Try.prog 34 #[.int .i64 a, .int .i64 b] w fun e w' => e = .returned (cx a b) ∧ w = w' := by
  unfold cx fl
  go_enter Try.func34, Try.ntmps34
  go_wp2
  go_ret
  exact ⟨rfl, rfl⟩

/-- The span of two numbers, or none. -/
def spanOf (a b : Int) : Int × Int × Bool := if 0 ≤ a ∧ a ≤ b ∧ b ≤ 281474976710655 then (a, b, true) else (0, 0, false)
theorem cx0 : cx 0 0 = .complex .f64 0 0 := by unfold cx; rw [fl0]
theorem span_of (a b : Int) (w : World) : Calls Try.prog 10 #[.int .i64 a, .int .i64 b] w fun e w' => e = .returned (.tuple #[cx (spanOf a b).1 (spanOf a b).2.1, .bool (spanOf a b).2.2]) ∧ w = w' := by
  unfold spanOf
  by_cases h : 0 ≤ a ∧ a ≤ b ∧ b ≤ 281474976710655
  · rw [if_pos h]
    obtain ⟨h0, h1, h2⟩ := h
    have hm := hide (fun W => span_made a b W)
    generalize cx a b = v at *
    go_enter Try.func10, Try.ntmps10
    go_wp2_with (go_at_call 34; refine (hm.out _).mono ?_; rintro e w1 ⟨rfl, rfl⟩)
    go_ret2
    exact ⟨rfl, rfl⟩
  · rw [if_neg h, cx0]
    by_cases h0 : 0 ≤ a
    · by_cases h1 : a ≤ b
      · have h2 : 281474976710655 < b := by omega
        clear h
        go_enter Try.func10, Try.ntmps10
        go_wp2_with fail
        go_ret2
        exact ⟨rfl, rfl⟩
      · clear h
        go_enter Try.func10, Try.ntmps10
        go_wp2_with fail
        go_ret2
        exact ⟨rfl, rfl⟩
    · clear h
      go_enter Try.func10, Try.ntmps10
      go_wp2_with fail
      go_ret2
      exact ⟨rfl, rfl⟩

theorem span_ends (a b : Int) (w : World) (h0 : 0 ≤ a) (h1 : a ≤ b) (h2 : b ≤ 281474976710655) : Calls Try.prog 13 #[cx a b] w fun e w' => e = .returned (.tuple #[.int .i64 a, .int .i64 b, .bool true]) ∧ w = w' := by
  have hr := hide (fun W => span_right a b W h0 h1 h2)
  have ha := back_int a h0 (by omega)
  have hb := back_int b (by omega) h2
  unfold cx at *
  generalize fl a = x at *
  generalize fl b = y at *
  go_enter Try.func13, Try.ntmps13
  go_wp2_with (go_at_call 35; refine (hr.out _).mono ?_; rintro e w1 ⟨rfl, rfl⟩)
  go_ret3
  exact ⟨rfl, rfl⟩

theorem span_holds (a b x : Int) (w : World) (h0 : 0 ≤ a) (h1 : a ≤ b) (h2 : b ≤ 281474976710655) : Calls Try.prog 14 #[cx a b, .int .i64 x] w fun e w' => e = .returned (.bool (decide (a ≤ x ∧ x ≤ b))) ∧ w = w' := by
  have hr := hide (fun W => span_ends a b W h0 h1 h2)
  generalize cx a b = v at *
  by_cases c0 : a ≤ x
  · by_cases c1 : x ≤ b
    · rw [decide_eq_true ⟨c0, c1⟩]
      go_enter Try.func14, Try.ntmps14
      go_wp2_with (go_at_call 13; refine (hr.out _).mono ?_; rintro e w1 ⟨rfl, rfl⟩)
      go_ret
      exact ⟨rfl, rfl⟩
    · rw [decide_eq_false (fun k => c1 k.2)]
      go_enter Try.func14, Try.ntmps14
      go_wp2_with (go_at_call 13; refine (hr.out _).mono ?_; rintro e w1 ⟨rfl, rfl⟩)
      go_ret
      exact ⟨ret_congr (bool_false (by omega)), rfl⟩
  · rw [decide_eq_false (fun k => c0 k.1)]
    go_enter Try.func14, Try.ntmps14
    go_wp2_with (go_at_call 13; refine (hr.out _).mono ?_; rintro e w1 ⟨rfl, rfl⟩)
    go_ret
    exact ⟨rfl, rfl⟩

theorem span_plain (a b : Int) (w : World) (h0 : 0 ≤ a) (h1 : a ≤ b) (h2 : b ≤ 281474976710655) : Calls Try.prog 57 #[cx a b] w fun e w' => e = .returned (cx a b) ∧ w = w' := by
  have hr := hide (fun W => span_ends a b W h0 h1 h2)
  have hm := hide (fun W => span_made a b W)
  generalize cx a b = v at *
  go_enter Try.func57, Try.ntmps57
  go_wp2_with (first | (go_at_call 13; refine (hr.out _).mono ?_; rintro e w1 ⟨rfl, rfl⟩) | (go_at_call 34; refine (hm.out _).mono ?_; rintro e w1 ⟨rfl, rfl⟩))
  go_ret
  exact ⟨rfl, rfl⟩
end Go.Proofs.Ytbibchdjojmpaaa

/- The walks of layer 3, on: the chapter's example, the reference's spans, and the laws SpanOf and SpanNodes. By the prover of this repo. -/
import Derived.Test.YtbibchdjojmpaaaSpanW
namespace Go.Proofs.Ytbibchdjojmpaaa
open Go.RowKit
open FloatM TwigM

@[go_sem] theorem run_store_float {P : Program} {w : World} (a : Addr) (m : Mode) (k : FloatKind) (b : Nat) : (store a (.float k b) m).run P w = stored P w a (.float k b) m := run_store P w a _ m rfl
theorem max_1 (ts : Array TypeId) (t : TypeId) (w : World) : (Builtin.max_ ts t #[.float .f64 4616189618054758400, .float .f64 4618441417868443648]).run Try.prog w = .ok (.float .f64 4618441417868443648) w := by
  have o : FloatKind.f64.format.order 4616189618054758400 4618441417868443648 = some .lt := by decide +kernel
  simp [Builtin.max_, Builtin.max2, o]
theorem min_1 (ts : Array TypeId) (t : TypeId) (w : World) : (Builtin.min_ ts t #[.float .f64 4619567317775286272, .float .f64 4621256167635550208]).run Try.prog w = .ok (.float .f64 4619567317775286272) w := by
  have o : FloatKind.f64.format.order 4619567317775286272 4621256167635550208 = some .lt := by decide +kernel
  simp [Builtin.min_, Builtin.min2, o]
theorem f1 : fl 1 = 4607182418800017408 := by decide +kernel
theorem f2 : fl 2 = 4611686018427387904 := by decide +kernel
theorem f3 : fl 3 = 4613937818241073152 := by decide +kernel
theorem f4 : fl 4 = 4616189618054758400 := by decide +kernel
theorem f6 : fl 6 = 4618441417868443648 := by decide +kernel
theorem f7 : fl 7 = 4619567317775286272 := by decide +kernel
theorem f9 : fl 9 = 4621256167635550208 := by decide +kernel
theorem c01 : cx 0 1 = .complex .f64 0 4607182418800017408 := by unfold cx; rw [fl0, f1]
theorem c20 : cx 2 0 = .complex .f64 4611686018427387904 0 := by unfold cx; rw [f2, fl0]
theorem c23 : cx 2 3 = .complex .f64 4611686018427387904 4613937818241073152 := by unfold cx; rw [f2, f3]
theorem c47 : cx 4 7 = .complex .f64 4616189618054758400 4619567317775286272 := by unfold cx; rw [f4, f7]
theorem c67 : cx 6 7 = .complex .f64 4618441417868443648 4619567317775286272 := by unfold cx; rw [f6, f7]
theorem c69 : cx 6 9 = .complex .f64 4618441417868443648 4621256167635550208 := by unfold cx; rw [f6, f9]
theorem mul_1 (t : TypeId) (w : World) : (binOp .mul t (.complex .f64 4611686018427387904 4613937818241073152) (.complex .f64 4611686018427387904 0)).run Try.prog w = .ok (.complex .f64 4616189618054758400 4618441417868443648) w :=
  run_complex_mul w t _ _ _ _ _ _ (by decide +kernel)
theorem add_1 (t : TypeId) (w : World) : (binOp .add t (.complex .f64 4616189618054758400 4618441417868443648) (.complex .f64 0 4607182418800017408)).run Try.prog w = .ok (.complex .f64 4616189618054758400 4619567317775286272) w :=
  run_complex_sum w .add (.inl rfl) t _ _ _ _ _ _ _ (by decide +kernel)

set_option maxRecDepth 100000 in
theorem grow_1 (w : World) : Calls Try.prog 36 #[cx 2 3, .int .i64 1] w fun e w' => e = .returned (.tuple #[cx 4 7, .bool true]) ∧ Below w.heap.size w w' := by
  have h1 := fun W => span_right 2 3 W (by omega) (by omega) (by omega)
  have h2 := fun W => span_plain 2 3 W (by omega) (by omega) (by omega)
  have h3 := fun W => span_made 2 0 W
  have h4 := fun W => span_made 0 1 W
  have h5 := fun W => span_right 4 7 W (by omega) (by omega) (by omega)
  have hm := fun W => mul_1 22 W
  have ha := fun W => add_1 22 W
  rw [c23] at h1 h2 ⊢
  rw [c20] at h3
  rw [c01] at h4
  rw [c47] at h5 ⊢
  replace h1 := hide h1
  replace h2 := hide h2
  replace h3 := hide h3
  replace h4 := hide h4
  replace h5 := hide h5
  go_enter Try.func36, Try.ntmps36
  go_wp2_with fail
  refine (h1.out _).mono ?_
  rintro e w1 ⟨rfl, rfl⟩
  go_wp2_with fail
  refine (h3.out _).mono ?_
  rintro e w1 ⟨rfl, rfl⟩
  go_wp2_with fail
  refine wp_region_later (by kernel_rfl) (by kernel_rfl) ?_
  repeat (go_big_quiet_step (first | (go_at_call 57; exact calls_later_same (h2.out _)) | (go_at_call 34; exact calls_later_same (h4.out _)) | exact rfl))
  refine wpQuiet_nil ?_
  rintro _ ⟨e1, rfl⟩
  go_wp2_with fail
  refine (h5.out _).mono ?_
  rintro e w1 ⟨rfl, rfl⟩
  go_wp2_with fail
  go_ret2
  exact ⟨rfl, e1.property⟩

theorem apart_1 (w : World) : Calls Try.prog 58 #[cx 4 7, cx 6 9] w fun e w' => e = .returned (.bool false) ∧ w = w' := by
  have h1 := fun W => span_right 4 7 W (by omega) (by omega) (by omega)
  have h2 := fun W => span_right 6 9 W (by omega) (by omega) (by omega)
  rw [c47] at h1 ⊢
  rw [c69] at h2 ⊢
  replace h1 := hide h1
  replace h2 := hide h2
  have o1 : FloatKind.f64.format.order 4619567317775286272 4618441417868443648 = some .gt := by decide +kernel
  have o2 : FloatKind.f64.format.order 4621256167635550208 4616189618054758400 = some .gt := by decide +kernel
  go_enter Try.func58, Try.ntmps58
  go_wp2_with fail
  refine (h1.out _).mono ?_
  rintro e w1 ⟨rfl, rfl⟩
  go_wp2_with fail
  refine (h2.out _).mono ?_
  rintro e w1 ⟨rfl, rfl⟩
  go_wp2_with fail
  go_ret
  exact ⟨rfl, rfl⟩
set_option maxRecDepth 100000 in
theorem cut_1 (w : World) : Calls Try.prog 37 #[cx 4 7, cx 6 9] w fun e w' => e = .returned (.tuple #[cx 6 7, .bool true]) ∧ Below w.heap.size w w' := by
  have h1 := fun W => span_right 4 7 W (by omega) (by omega) (by omega)
  have h2 := fun W => span_right 6 9 W (by omega) (by omega) (by omega)
  have h3 := fun W => apart_1 W
  have h4 := fun W => span_plain 6 7 W (by omega) (by omega) (by omega)
  rw [c47] at h1 h3 ⊢
  rw [c69] at h2 h3 ⊢
  rw [c67] at h4 ⊢
  replace h1 := hide h1
  replace h2 := hide h2
  replace h3 := hide h3
  replace h4 := hide h4
  have hmx := fun ts t W => max_1 ts t W
  have hmn := fun ts t W => min_1 ts t W
  go_enter Try.func37, Try.ntmps37
  go_wp2_with fail
  refine (h1.out _).mono ?_
  rintro e w1 ⟨rfl, rfl⟩
  go_wp2_with fail
  refine (h2.out _).mono ?_
  rintro e w1 ⟨rfl, rfl⟩
  go_wp2_with fail
  refine (h3.out _).mono ?_
  rintro e w1 ⟨rfl, rfl⟩
  go_wp2_with fail
  refine (h4.out _).mono ?_
  rintro e w1 ⟨rfl, rfl⟩
  go_wp2_with fail
  go_ret2
  exact ⟨rfl, Below.refl _ _⟩

theorem alive03 (w : World) : Calls Try.prog 15 #[] w fun e w' => e = .returned (.bool true) ∧ Below w.heap.size w w' := by
  have h1 := fun W => span_of 2 3 W
  have h2 := grow_1
  have h3 := cut_1
  have e1 : spanOf 2 3 = (2, 3, true) := by decide
  rw [e1] at h1
  simp only [c23, c47, c69, c67] at h1 h2 h3
  have o2 : FloatKind.f64.format.order 4611686018427387904 4611686018427387904 = some .eq := by decide +kernel
  have o3 : FloatKind.f64.format.order 4613937818241073152 4613937818241073152 = some .eq := by decide +kernel
  have o4 : FloatKind.f64.format.order 4616189618054758400 4616189618054758400 = some .eq := by decide +kernel
  have o7 : FloatKind.f64.format.order 4619567317775286272 4619567317775286272 = some .eq := by decide +kernel
  have o6 : FloatKind.f64.format.order 4618441417868443648 4618441417868443648 = some .eq := by decide +kernel
  replace h1 := hide h1
  replace h2 := hide h2
  replace h3 := hide h3
  go_enter Try.func15, Try.ntmps15
  go_wp2_with fail
  refine (h1.out _).mono ?_
  rintro e w1 ⟨rfl, rfl⟩
  go_wp2_with fail
  refine (h2.out _).mono ?_
  rintro e w1 ⟨rfl, hb1⟩
  go_wp2_with fail
  refine (h3.out _).mono ?_
  rintro e w2 ⟨rfl, hb2⟩
  go_wp2_with fail
  go_ret
  exact ⟨rfl, bthen hb1 hb2⟩

/-- The reference's span: its two ends as floats. -/
abbrev sp (a b : Int) : Value := .agg #[.float .f64 (fl a), .float .f64 (fl b)]
set_option maxRecDepth 100000 in
theorem ref03_of (a b : Int) (w : World) : Calls Try.prog 11 #[.int .i64 a, .int .i64 b] w fun e w' => e = .returned (.tuple #[sp (spanOf a b).1 (spanOf a b).2.1, .bool (spanOf a b).2.2]) ∧ Below w.heap.size w w' := by
  unfold spanOf
  by_cases h : 0 ≤ a ∧ a ≤ b ∧ b ≤ 281474976710655
  · rw [if_pos h]
    obtain ⟨h0, h1, h2⟩ := h
    unfold sp fl
    go_enter Try.func11, Try.ntmps11
    go_wp2_with fail
    refine bodyPost_ret (v := .tuple #[.agg #[.float .f64 (floatOfInt .f64 a), .float .f64 (floatOfInt .f64 b)], .bool true]) (by simp [results, Try.results11, go_sem]) rfl ⟨rfl, ?_⟩
    first | exact balloc0 _ _ | trace_state
  · rw [if_neg h]
    have hz : sp 0 0 = .agg #[.float .f64 0, .float .f64 0] := by unfold sp; rw [fl0]
    show Calls _ _ _ _ (fun e w' => e = .returned (.tuple #[sp 0 0, .bool false]) ∧ Below w.heap.size w w')
    rw [hz]
    by_cases h0 : 0 ≤ a
    · by_cases h1 : a ≤ b
      · have h2 : 281474976710655 < b := by omega
        clear h hz
        go_enter Try.func11, Try.ntmps11
        go_wp2_with fail
        refine bodyPost_ret (v := .tuple #[.agg #[.float .f64 0, .float .f64 0], .bool false]) (by simp [results, Try.results11, go_sem]) rfl ⟨rfl, ?_⟩
        first | exact balloc0 _ _ | trace_state
      · clear h hz
        go_enter Try.func11, Try.ntmps11
        go_wp2_with fail
        refine bodyPost_ret (v := .tuple #[.agg #[.float .f64 0, .float .f64 0], .bool false]) (by simp [results, Try.results11, go_sem]) rfl ⟨rfl, ?_⟩
        first | exact balloc0 _ _ | trace_state
    · clear h hz
      go_enter Try.func11, Try.ntmps11
      go_wp2_with fail
      refine bodyPost_ret (v := .tuple #[.agg #[.float .f64 0, .float .f64 0], .bool false]) (by simp [results, Try.results11, go_sem]) rfl ⟨rfl, ?_⟩
      first | exact balloc0 _ _ | trace_state

theorem law03_made (a b : Int) (w : World) : Calls Try.prog 12 #[sp a b] w fun e w' => e = .returned (cx a b) ∧ Below w.heap.size w w' := by
  unfold sp cx
  generalize fl a = x
  generalize fl b = y
  go_enter Try.func12, Try.ntmps12
  go_wp2_with fail
  go_ret
  exact ⟨rfl, balloc0 _ _⟩
end Go.Proofs.Ytbibchdjojmpaaa

/- A letter as an argument, opened and shut. By the prover of this repo. -/
import Derived.Test.YtclndbaafibaiaaLetterP
import Derived.Test.YtclndbaafibaiaaFrame
import Derived.Lib.SmallJoins
namespace Go.Proofs.Ytclndbaafibaiaa
open Go.ChangeShapes Go.WideShapes Go.ChangeAt Go.RowKit Go.Joins

theorem letter_open {H : Type} {enc : TypeId × Value → H} {W : World} {b0 : Nat} {v : Value} {d : DataW H} {p : List MemPlace} (hv : Value.okWide Try.prog W .any b0 68 v) (h : DataW.Trod enc Try.prog W 0 (fun _ => true) true 68 v d p) :
    ∃ x : Let, v = lv x ∧ d = .agg [.lit (.int .i64 x.ep), .lit (.int .i64 x.fr), .lit (.int .u64 x.co), .lit (.string x.body.data.toList)] ∧ p = [] ∧ x.Wf := by
  obtain ⟨v0, v1, v2, v3, y0, y1, y2, y3, n, rfl, rfl, rfl, h0, h1, h2, h3⟩ := open_agg4 Try.underlying68 (by kernel_rfl) (by kernel_rfl) hv h
  obtain ⟨a, e0, rfl, wa⟩ := DataW.trod_int Try.underlying3 h0
  obtain ⟨b, e1, rfl, wb⟩ := DataW.trod_int Try.underlying3 h1
  obtain ⟨c, e2, rfl, wc⟩ := DataW.trod_int Try.underlying66 h2
  obtain ⟨t, e3, rfl, wt⟩ := DataW.trod_string Try.underlying9 h3
  simp only [List.cons.injEq, and_true] at e0 e1 e2 e3
  subst e0 e1 e2 e3
  refine ⟨⟨a, b, c, t⟩, rfl, by simp, by simp, ?_⟩
  have ba := i64_bounds wa
  have bb := i64_bounds wb
  have bc := bounds_u64 wc
  exact ⟨ba.1, ba.2, bb.1, bb.2, by show 0 ≤ c; omega, by show c < _; omega, by show t.size ≤ _; unfold maxLen at wt; omega⟩

theorem letter_shut {H : Type} {enc : TypeId × Value → H} {W : World} {base : Nat} {sp : Nat → Bool} {held : Bool} {x : Let} (h : x.Wf) :
    DataW.Trod enc Try.prog W base sp held 68 (lv x) (.agg [.lit (.int .i64 x.ep), .lit (.int .i64 x.fr), .lit (.int .u64 x.co), .lit (.string x.body.data.toList)]) [] := by
  obtain ⟨ep, fr, co, body⟩ := x
  obtain ⟨h1, h2, h3, h4, h5, h6, h7⟩ := h
  simp only at h1 h2 h3 h4 h5 h6 h7
  have m1 : IntKind.i64.min = -9223372036854775808 := rfl
  have m2 : IntKind.i64.max = 9223372036854775807 := rfl
  have m3 : IntKind.u64.min = 0 := rfl
  have m4 : IntKind.u64.max = 18446744073709551615 := rfl
  have wa : (Lit.int .i64 ep).wf = true := by simp [Lit.wf, m1, m2, m3, m4]; omega
  have wb : (Lit.int .i64 fr).wf = true := by simp [Lit.wf, m1, m2, m3, m4]; omega
  have wc : (Lit.int .u64 co).wf = true := by simp [Lit.wf, m1, m2, m3, m4]; omega
  have := shut_agg4 (enc := enc) (w := W) (base := base) (spare := sp) (held := held) (v0 := .int .i64 ep) (v1 := .int .i64 fr) (v2 := .int .u64 co) (v3 := .string body) Try.underlying68 (by kernel_rfl) (by kernel_rfl)
    ⟨1, trod_int_mk 0 Try.underlying3 wa⟩ ⟨1, trod_int_mk 0 Try.underlying3 wb⟩ ⟨1, trod_int_mk 0 Try.underlying66 wc⟩ (Go.ChangeMaps.shut_string Try.underlying9 h7)
  simpa using this
end Go.Proofs.Ytclndbaafibaiaa

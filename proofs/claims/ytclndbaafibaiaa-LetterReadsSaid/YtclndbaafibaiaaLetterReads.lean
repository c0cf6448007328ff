/- The statement LetterReads, proved: out of the law's walk (YtclndbaafibaiaaLetterT.letterReads_walk): for every input the law returns true, and nothing that was there has turned. By the prover of this repo; the frame's lines by its tools/frame.py. -/
import Derived.Test.YtclndbaafibaiaaArgs
import Derived.Test.YtclndbaafibaiaaRows
import Derived.Test.YtclndbaafibaiaaFrame
import Derived.Test.YtclndbaafibaiaaLetterT
namespace Go.Proofs.Ytclndbaafibaiaa
open Go.ChangeShapes Go.WideShapes Go.ChangeAt Go.RowKit
open Go.ChangeMaps (open_string shut_string)
set_option linter.unusedVariables false

set_option maxRecDepth 100000 in
theorem letterReads_lifted (os : Os) (started : os.Started) (H : Type) (enc : TypeId × Value → H) :
    ReturnsInHanded {} Try.checked os 12 .any (Rows.letterReadsSpec.pre6 enc Try.prog Try.f12 Rows.letterReadsRow.domain false) (Rows.letterReadsSpec.post enc Try.prog Try.f12 false true false false) := by
  refine returnsInHanded_of_change_sized (C := Try.checked) own started (by kernel_rfl) Try.func12
    (ChangeSpec.witness6 (enc := enc) (C := Try.checked) false ⟨#[], #[.agg #[.string ByteArray.empty, .bool false]], []⟩ 8 (by kernel_rfl) (by kernel_rfl) (by kernel_rfl) (by kernel_rfl)) ?_
  intro W base args ds gs before hval0 hW hcnd hsz0 _
  have hsz : (DataW.weightsEach Try.prog (Try.f12.params.toList ++ Rows.letterReadsSpec.plain.varTypes Try.prog) (ds ++ gs)).all (· ≤ reachBytes) = true := hsz0
  have hval : ∀ (j : Nat) t v, Try.f12.params[j]? = some t → args[j]? = some v → Value.okWide Try.prog W .any base t v := hval0
  have hW' := hW
  obtain ⟨p, q, hA0, hV, rfl, hfz, hnd⟩ := hW
  have hA : DataW.TrodAll enc Try.prog W 0 (fun _ => true) true Try.f12.params.toList args.toList ds p := hA0
  rw [Try.params12] at hA hval hsz
  obtain ⟨v0, vs0, d0, ds0, p0, q0, hargs, rfl, rfl, h0, r0⟩ := trodAll_cons hA
  obtain ⟨rfl, rfl, rfl⟩ := trodAll_nil r0
  obtain rfl : args = #[v0] := by cases args; simp_all
  obtain ⟨rfl, rfl⟩ := trodVars_none hV
  have k0 := h0
  have lt0 : ∀ x ∈ p0, x.block < W.heap.size := by obtain ⟨m, hm⟩ := k0; exact DataW.trod_lt m _ _ _ hm
  obtain ⟨a0, b0, rfl, rfl, w0⟩ := arg_some Try.underlying77 Try.underlying9 Try.underlying4 (by kernel_rfl) (by kernel_rfl) (hval 0 77 v0 rfl rfl) h0
  have sz0 : a0.size ≤ 140737488351232 := by have := sized_in_struct hsz (j := 0) (i := 0) rfl rfl Try.underlying77 rfl rfl; simpa using this
  clear hA0 hval0 hsz0
  refine (letterReads_walk a0 b0 W sz0).mono fun e W' ⟨he, bel⟩ => ?_
  subst he
  exact ⟨_, rfl, _, _, _, [], _, [], hW', trodAll_mk1 (shut_bool Try.underlying4 _), (trodAll_cons_mk (Below.trod laidOut (by kernel_rfl) (of_decide_eq_true (by kernel_rfl)) k0 bel lt0) trodAll_mk0), rfl, bel.frame _, fun h => by cases h⟩

theorem letterReads_over : Rows.letterReadsRow.holds Try.pinned (OpenSpec.ofChange Rows.letterReadsSpec) :=
  OpenClaim.holds_of_wide 12 Try.f12 rfl rfl rfl rfl rfl rfl rfl ⟨rfl, rfl, rfl, rfl, rfl⟩ rfl rfl rfl rfl rfl (by kernel_rfl) Try.func12 (by kernel_rfl)
    (of_decide_eq_true (by kernel_rfl)) (by unfold Func.isWrapper; first | (rw [if_pos (by decide +kernel)]; kernel_rfl) | (rw [if_neg (by decide +kernel)]; exact ⟨rfl, rfl⟩))
    (fun os started H enc _ => letterReads_lifted os started H enc)

theorem letterReads_proved : Rows.LetterReadsSaid := letterReads_over
#print axioms letterReads_proved
end Go.Proofs.Ytclndbaafibaiaa

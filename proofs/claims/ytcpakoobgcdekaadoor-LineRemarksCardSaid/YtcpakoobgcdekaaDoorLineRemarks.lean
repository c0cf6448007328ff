/- The statement LineRemarks, proved: out of the law's walk (YtcpakoobgcdekaaDoorLineO.lineRemarks_walk): for every input the law returns true, and nothing that was there has turned. By the prover of this repo; the frame's lines by its tools/frame.py. -/
import Derived.Test.YtcpakoobgcdekaaDoorRows
import Derived.Test.YtcpakoobgcdekaaDoorCards
import Derived.Test.YtcpakoobgcdekaaDoorTie
import Derived.Test.YtcpakoobgcdekaaDoorFrame
import Derived.Test.YtcpakoobgcdekaaDoorLineT
import Derived.Test.YtcpakoobgcdekaaDoorLineO
import Derived.SevenTiedAt
import Derived.ChangeVars
import Derived.JoinedOf
import Derived.LaidLaws
namespace Go.Proofs.YtcpakoobgcdekaaDoor
open Go.ChangeShapes Go.WideShapes Go.ChangeAt Go.RowKit
open Go.ChangeMaps (open_string shut_string)
set_option linter.unusedVariables false

def litV : DataW Unit → Value
  | .lit (.int k z) => .int k z
  | .lit (.string s) => .string ⟨s.toArray⟩
  | _ => undef
def cellsD : DataW Unit → List Value
  | .agg l => l.flatMap fun x => match x with
    | .agg m => m.map litV
    | y => [litV y]
  | d => [litV d]
/-- A variable's block that holds a datum. -/
def laidObj (d : DataW Unit) : Obj → Obj
  | .cells _ t frozen => .cells (cellsD d).toArray t frozen
  | o => o

set_option maxRecDepth 100000 in
theorem lineRemarks_lifted (os : Os) (started : os.Started) (H : Type) (enc : TypeId × Value → H) :
    ReturnsInHanded {} Tryd.checked os 8 .any (fun w args => (Rows.lineRemarksSpec.pre enc Tryd.prog Tryd.f8 [] false w args ∧ laidMet Tryd.prog Rows.lineRemarksRow.laid w) ∧ sizedMet enc Tryd.prog Tryd.f8 (OpenSpec.ofChange Rows.lineRemarksSpec) false w args)
      (Rows.lineRemarksSpec.post enc Tryd.prog Tryd.f8 false true false false) := by
  refine returnsInHanded_of_change_and (C := Tryd.checked) (X := fun w _ => laidMet Tryd.prog Rows.lineRemarksRow.laid w) (fun _ _ _ hh h => h.of_heap hh) own started (by kernel_rfl) Tryd.func8
    (ChangeSpec.witness_at (enc := enc) (C := Tryd.checked) (os := os) (X := fun w _ => laidMet Tryd.prog Rows.lineRemarksRow.laid w) false
      { World.holding Tryd.prog os ⟨#[], #[], []⟩ with heap := (((World.holding Tryd.prog os ⟨#[], #[], []⟩).heap.modify 4 (laidObj Rows.laid_unicode_utf8_acceptRanges)).modify 0 (laidObj Rows.laid_dewpond_line_words)).modify 3 (laidObj Rows.laid_unicode_utf8_first) } #[.string ByteArray.empty] 8 rfl (by kernel_rfl) (by kernel_rfl) (by kernel_rfl) (by kernel_rfl) (by kernel_rfl)
      (laidMet_of_run' 8 (by kernel_rfl) (by kernel_rfl))) ?_
  intro W base args ds gs before hval0 hW hcnd hsz0 hL _
  have hval : ∀ (j : Nat) t v, Tryd.f8.params[j]? = some t → args[j]? = some v → Value.okWide Tryd.prog W .any base t v := hval0
  have hW' := hW
  obtain ⟨p, q, hA0, hV, rfl, hfz, hnd⟩ := hW
  have hA : DataW.TrodAll enc Tryd.prog W 0 (fun _ => true) true Tryd.f8.params.toList args.toList ds p := hA0
  rw [Tryd.params8] at hA hval
  obtain ⟨v0, vs0, d0, ds0, p0, q0, hargs, rfl, rfl, h0, r0⟩ := trodAll_cons hA
  obtain ⟨rfl, rfl, rfl⟩ := trodAll_nil r0
  obtain rfl : args = #[v0] := by cases args; simp_all
  obtain ⟨rfl, rfl⟩ := trodVars_none hV
  obtain ⟨a0, rfl, rfl, rfl, w0⟩ := open_string Tryd.underlying9 (hval 0 9 v0 rfl rfl) h0
  clear hA0 hval0 hsz0
  have hT : Wz W := wz_laid (name := "dewpond/line.words") (by kernel_rfl) (List.Mem.tail _ (List.Mem.head _)) hL
  refine (lineRemarks_walk a0 W hT w0).mono fun e W' ⟨he, bel⟩ => ?_
  subst he
  exact ⟨_, rfl, _, _, _, [], _, [], hW', trodAll_mk1 (shut_bool Tryd.underlying4 _), (trodAll_cons_mk (shut_string Tryd.underlying9 w0) trodAll_mk0), rfl, bel.frame _, fun h => by cases h⟩

theorem lineRemarks_over : Rows.lineRemarksRow.holds Tryd.pinned (OpenSpec.ofChange Rows.lineRemarksSpec) :=
  OpenClaim.holds_of_wide 8 Tryd.f8 rfl rfl rfl rfl rfl rfl rfl ⟨rfl, rfl, rfl, rfl, rfl⟩ rfl rfl rfl rfl rfl (by kernel_rfl) Tryd.func8 (by kernel_rfl)
    (of_decide_eq_true (by kernel_rfl)) (by unfold Func.isWrapper; first | (rw [if_pos (by decide +kernel)]; kernel_rfl) | (rw [if_neg (by decide +kernel)]; exact ⟨rfl, rfl⟩))
    (fun os started H enc _ => lineRemarks_lifted os started H enc)

theorem lineRemarks_proved : Rows.LineRemarksCardSaid :=
  Claim7.holds_tied_plain_at .later [] [.data, .widerDeep, .pinned] true (true, "5474a434b132d5ed57ec0cbcd781c8f0b1cc43c31161f5d42cc372f9200464eb") false
    lineRemarks_over (fun _ h => by cases h) (by kernel_rfl) (fun _ h => by cases h) lineRemarks_row_tie rfl ⟨rfl, rfl⟩ (by kernel_rfl) rfl
    (fun f fn hf hfn => by
      obtain rfl : f = 8 := Option.some.inj ((show Tryd.prog.funcNamed Rows.lineRemarksRow.func = some 8 by kernel_rfl).symm.trans hf) |>.symm
      obtain rfl : fn = Tryd.f8 := (Option.some.inj (Tryd.func8.symm.trans hfn)).symm
      exact ⟨by kernel_rfl, fun j t ht => by
        rw [Tryd.params8] at ht
        rcases j with _ | j
        · obtain rfl := Option.some.inj ht; kernel_rfl
        · simp at ht⟩)
    (by kernel_rfl)
#print axioms lineRemarks_proved
end Go.Proofs.YtcpakoobgcdekaaDoor

/- The statement LineBack, proved: out of the law's walk (YtcpakoobgcdekaaDoorLineX.lineBack_walk): for every input the law returns true, and nothing that was there has turned. By the prover of this repo; the frame's lines by its tools/frame.py. -/
import Derived.Test.YtcpakoobgcdekaaDoorLineZ
import Derived.Test.YtcpakoobgcdekaaDoorRows
import Derived.Test.YtcpakoobgcdekaaDoorCards
import Derived.Test.YtcpakoobgcdekaaDoorTie
import Derived.Test.YtcpakoobgcdekaaDoorFrame
import Derived.Test.YtcpakoobgcdekaaDoorLineT
import Derived.Test.YtcpakoobgcdekaaDoorLineX
import Derived.SevenTiedAt
import Derived.ChangeVars
import Derived.JoinedOf
import Derived.LaidLaws
namespace Go.Proofs.YtcpakoobgcdekaaDoor
open Go.ChangeShapes Go.WideShapes Go.ChangeAt Go.RowKit
open Go.ChangeMaps (open_string shut_string)
set_option linter.unusedVariables false

def litV : DataW Unit → Value
  | .lit (.int k z) => .int k z
  | .lit (.string s) => .string ⟨s.toArray⟩
  | _ => undef
def cellsD : DataW Unit → List Value
  | .agg l => l.flatMap fun x => match x with
    | .agg m => m.map litV
    | y => [litV y]
  | d => [litV d]
/-- A variable's block that holds a datum. -/
def laidObj (d : DataW Unit) : Obj → Obj
  | .cells _ t frozen => .cells (cellsD d).toArray t frozen
  | o => o

set_option maxRecDepth 100000 in
theorem lineBack_lifted (os : Os) (started : os.Started) (H : Type) (enc : TypeId × Value → H) :
    ReturnsInHanded {} Tryd.checked os 10 .any (fun w args => (Rows.lineBackSpec.pre enc Tryd.prog Tryd.f10 [] false w args ∧ laidMet Tryd.prog Rows.lineBackRow.laid w) ∧ sizedMet enc Tryd.prog Tryd.f10 (OpenSpec.ofChange Rows.lineBackSpec) false w args)
      (Rows.lineBackSpec.post enc Tryd.prog Tryd.f10 false true false false) := by
  refine returnsInHanded_of_change_and (C := Tryd.checked) (X := fun w _ => laidMet Tryd.prog Rows.lineBackRow.laid w) (fun _ _ _ hh h => h.of_heap hh) own started (by kernel_rfl) Tryd.func10
    (ChangeSpec.witness_at (enc := enc) (C := Tryd.checked) (os := os) (X := fun w _ => laidMet Tryd.prog Rows.lineBackRow.laid w) false
      { World.holding Tryd.prog os ⟨#[], #[], []⟩ with heap := (((World.holding Tryd.prog os ⟨#[], #[], []⟩).heap.modify 4 (laidObj Rows.laid_unicode_utf8_acceptRanges)).modify 0 (laidObj Rows.laid_dewpond_line_words)).modify 3 (laidObj Rows.laid_unicode_utf8_first) } #[.agg #[.int .i64 0, .string ByteArray.empty, .string ByteArray.empty, .slice none 0 0], .agg #[.int .i64 0, .string ByteArray.empty, .string ByteArray.empty, .slice none 0 0], .string ByteArray.empty] 8 rfl (by kernel_rfl) (by kernel_rfl) (by kernel_rfl) (by kernel_rfl) (by kernel_rfl)
      (laidMet_of_run' 8 (by kernel_rfl) (by kernel_rfl))) ?_
  intro W base args ds gs before hval0 hW hcnd hsz0 hL _
  have hval : ∀ (j : Nat) t v, Tryd.f10.params[j]? = some t → args[j]? = some v → Value.okWide Tryd.prog W .any base t v := hval0
  have hW' := hW
  obtain ⟨p, q, hA0, hV, rfl, hfz, hnd⟩ := hW
  have hA : DataW.TrodAll enc Tryd.prog W 0 (fun _ => true) true Tryd.f10.params.toList args.toList ds p := hA0
  rw [Tryd.params10] at hA hval
  obtain ⟨v0, vs0, d0, ds0, p0, q0, hargs, rfl, rfl, h0, r0⟩ := trodAll_cons hA
  obtain ⟨v1, vs1, d1, ds1, p1, q1, rfl, rfl, rfl, h1, r1⟩ := trodAll_cons r0
  obtain ⟨v2, vs2, d2, ds2, p2, q2, rfl, rfl, rfl, h2, r2⟩ := trodAll_cons r1
  obtain ⟨rfl, rfl, rfl⟩ := trodAll_nil r2
  obtain rfl : args = #[v0, v1, v2] := by cases args; simp_all
  obtain ⟨rfl, rfl⟩ := trodVars_none hV
  have k0 := h0
  have lt0 : ∀ x ∈ p0, x.block < W.heap.size := by obtain ⟨m, hm⟩ := k0; exact DataW.trod_lt m _ _ _ hm
  obtain ⟨o0, x0, y0, a0, n0, c0, z0, rfl, hz0, hn0, hc0, r0d, b0⟩ := arg_cmd (hval 0 54 v0 rfl rfl) h0
  have k1 := h1
  have lt1 : ∀ x ∈ p1, x.block < W.heap.size := by obtain ⟨m, hm⟩ := k1; exact DataW.trod_lt m _ _ _ hm
  obtain ⟨o1, x1, y1, a1, n1, c1, z1, rfl, hz1, hn1, hc1, r1d, b1⟩ := arg_cmd (hval 1 54 v1 rfl rfl) h1
  obtain ⟨a2, rfl, rfl, rfl, w2⟩ := open_string Tryd.underlying9 (hval 2 9 v2 rfl rfl) h2
  clear hA0 hval0 hsz0
  have hT : Wz W := wz_laid (name := "dewpond/line.words") (by kernel_rfl) (List.Mem.tail _ (List.Mem.head _)) hL
  refine (lineBack_walk o0 x0 y0 a0 n0 c0 z0 o1 x1 y1 a1 n1 c1 z1 a2 W hT hz0 hn0 hc0 r0d b0 hz1 hn1 hc1 r1d b1 w2).mono fun e W' ⟨he, bel⟩ => ?_
  subst he
  exact ⟨_, rfl, _, _, _, [], _, [], hW', trodAll_mk1 (shut_bool Tryd.underlying4 _), (trodAll_cons_mk (Below.trod laidOut (by kernel_rfl) (of_decide_eq_true (by kernel_rfl)) k0 bel lt0) (trodAll_cons_mk (Below.trod laidOut (by kernel_rfl) (of_decide_eq_true (by kernel_rfl)) k1 bel lt1) (trodAll_cons_mk (shut_string Tryd.underlying9 w2) trodAll_mk0))), rfl, bel.frame _, fun h => by cases h⟩

theorem lineBack_over : Rows.lineBackRow.holds Tryd.pinned (OpenSpec.ofChange Rows.lineBackSpec) :=
  OpenClaim.holds_of_wide 10 Tryd.f10 rfl rfl rfl rfl rfl rfl rfl ⟨rfl, rfl, rfl, rfl, rfl⟩ rfl rfl rfl rfl rfl (by kernel_rfl) Tryd.func10 (by kernel_rfl)
    (of_decide_eq_true (by kernel_rfl)) (by unfold Func.isWrapper; first | (rw [if_pos (by decide +kernel)]; kernel_rfl) | (rw [if_neg (by decide +kernel)]; exact ⟨rfl, rfl⟩))
    (fun os started H enc _ => lineBack_lifted os started H enc)

theorem lineBack_proved : Rows.LineBackCardSaid :=
  Claim7.holds_tied_plain_at .later [] [.data, .widerDeep, .pinned] true (true, "5474a434b132d5ed57ec0cbcd781c8f0b1cc43c31161f5d42cc372f9200464eb") false
    lineBack_over (fun _ h => by cases h) (by kernel_rfl) (fun _ h => by cases h) lineBack_row_tie rfl ⟨rfl, rfl⟩ (by kernel_rfl) rfl
    (fun f fn hf hfn => by
      obtain rfl : f = 10 := Option.some.inj ((show Tryd.prog.funcNamed Rows.lineBackRow.func = some 10 by kernel_rfl).symm.trans hf) |>.symm
      obtain rfl : fn = Tryd.f10 := (Option.some.inj (Tryd.func10.symm.trans hfn)).symm
      exact ⟨by kernel_rfl, fun j t ht => by
        rw [Tryd.params10] at ht
        rcases j with _ | _ | _ | j
        · obtain rfl := Option.some.inj ht; kernel_rfl
        · obtain rfl := Option.some.inj ht; kernel_rfl
        · obtain rfl := Option.some.inj ht; kernel_rfl
        · simp at ht⟩)
    (by kernel_rfl)
#print axioms lineBack_proved
end Go.Proofs.YtcpakoobgcdekaaDoor

/- A command as an argument, opened. By the prover of this repo. -/
import Derived.Test.YtcpakoobgcdekaaDoorLineE
import Derived.Test.YtcpakoobgcdekaaDoorFrame
import Derived.Lib.SmallJoins
namespace Go.Proofs.YtcpakoobgcdekaaDoor
open Go.ChangeShapes Go.WideShapes Go.ChangeAt Go.RowKit Go.Joins

set_option maxRecDepth 100000 in
theorem arg_cmd {H : Type} {enc : TypeId × Value → H} {W : World} {b0 : Nat} {held : Bool} {v : Value} {d : DataW H} {p : List MemPlace} (hv : Value.okWide Tryd.prog W .any b0 54 v) (h : DataW.Trod enc Tryd.prog W 0 (fun _ => true) held 54 v d p) :
    ∃ (o : Int) (x y : ByteArray) (a : Option Addr) (n c : Nat) (z : List Int), v = cmdV o x y (.slice a n c) ∧ z.length = n ∧ n ≤ c ∧ c ≤ maxLen ∧ Rd W a n 1 (fun i => .int .i64 (z.getD i 0)) ∧ ∀ t ∈ z, (Lit.int .i64 t).wf = true := by
  obtain ⟨v0, v1, v2, v3, y0, y1, y2, y3, n, rfl, rfl, rfl, h0, h1, h2, h3⟩ := open_agg4 Tryd.underlying54 (by kernel_rfl) (by kernel_rfl) hv h
  obtain ⟨a, e0, rfl, _⟩ := DataW.trod_int Tryd.underlying3 h0
  obtain ⟨x, e1, rfl, _⟩ := DataW.trod_string Tryd.underlying9 h1
  obtain ⟨y, e2, rfl, _⟩ := DataW.trod_string Tryd.underlying9 h2
  simp only [List.cons.injEq, and_true] at e0 e1 e2
  subst e0 e1 e2
  rcases open_ints Tryd.underlying22 Tryd.underlying3 (by kernel_rfl) h3 with ⟨hcs, _⟩ | ⟨q, k, c', zs, hcs, _, hl, hm, hz, _, hcell, hwz⟩
  · simp only [List.cons.injEq, and_true] at hcs
    subst hcs
    exact ⟨a, x, y, none, 0, 0, [], rfl, rfl, Nat.le_refl _, by unfold maxLen; omega, Rd.zero _ _ _ _, by simp⟩
  · simp only [List.cons.injEq, and_true] at hcs
    subst hcs
    simp at hz
    refine ⟨a, x, y, some q, k, c', zs.take k, rfl, by rw [List.length_take]; omega, hl, hm, ?_, fun t ht => hwz t (List.mem_of_mem_take ht)⟩
    refine rd_cells (by omega) fun i hi => ?_
    rw [hcell i (by omega)]
    simp [show i < k by omega]
end Go.Proofs.YtcpakoobgcdekaaDoor

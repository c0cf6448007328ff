/- Part 50 of the proof: texts joined by this repo's tools/merge2.py (StrG). By the prover of this repo. -/
import Derived.Test.YteebghoijaaakaaGreatM25
import Derived.Test.YteebghoijaaakaaGreatM49
import Derived.Deep.SlicePairs
import Derived.Deep.Strs
set_option linter.unusedVariables false
set_option linter.unusedSimpArgs false
/- Arguments that hold calls of several digests, opened. By the prover of this repo. -/
namespace Go.Proofs.YteebghoijaaakaaGreat
namespace CW
open Go.ChangeShapes Go.WideShapes Go.ChangeAt Go.RowKit Go.Joins Go.Deep
open TopM

section
variable {H : Type} {enc : TypeId × Value → H} {P : Program} {w : World} {held : Bool} {r : Reach} {b0 : Nat}
theorem trod_struct5 {base : Nat} {spare : Nat → Bool} {t : TypeId} {f0 f1 f2 f3 f4 : Field} {fuel : Nat} {cs : List Value} {x : DataW H × List MemPlace} (ht : P.underlying t = some (.struct #[f0, f1, f2, f3, f4])) (h : DataW.trod enc P w base spare held fuel t cs = some x) :
    ∃ y0 y1 y2 y3 y4 n, cs.length = P.cellsOf t ∧ DataW.trod enc P w base spare held n f0.type ((cs.drop f0.offset).take (P.cellsOf f0.type)) = some y0 ∧
      DataW.trod enc P w base spare held n f1.type ((cs.drop f1.offset).take (P.cellsOf f1.type)) = some y1 ∧ DataW.trod enc P w base spare held n f2.type ((cs.drop f2.offset).take (P.cellsOf f2.type)) = some y2 ∧
      DataW.trod enc P w base spare held n f3.type ((cs.drop f3.offset).take (P.cellsOf f3.type)) = some y3 ∧ DataW.trod enc P w base spare held n f4.type ((cs.drop f4.offset).take (P.cellsOf f4.type)) = some y4 := by
  obtain ⟨xs, n, _, rfl, hl, hlen, hf⟩ := DataW.trod_struct ht h
  match xs, hlen with
  | [y0, y1, y2, y3, y4], _ => exact ⟨y0, y1, y2, y3, y4, n, hl, by simpa using hf 0 f0 rfl, by simpa using hf 1 f1 rfl, by simpa using hf 2 f2 rfl, by simpa using hf 3 f3 rfl, by simpa using hf 4 f4 rfl⟩
theorem cell_hops {t e : TypeId} {f0 f1 f2 f3 f4 : Field} {v : Value} {fuel : Nat} {x0 : DataW H × List MemPlace} (ht : P.underlying t = some (.slice e)) (he : P.underlying e = some (.struct #[f0, f1, f2, f3, f4]))
    (ce : P.cellsOf e = 5) (o0 : f0.offset = 0) (o1 : f1.offset = 1) (o2 : f2.offset = 2) (o3 : f3.offset = 3) (o4 : f4.offset = 4) (c0 : P.cellsOf f0.type = 1) (c1 : P.cellsOf f1.type = 1) (c2 : P.cellsOf f2.type = 1) (c3 : P.cellsOf f3.type = 1) (c4 : P.cellsOf f4.type = 1)
    (h0 : P.underlying f0.type = some (.int .i64)) (h1 : P.underlying f1.type = some (.int .i64)) (h2 : P.underlying f2.type = some (.int .i64)) (h3 : P.underlying f3.type = some (.int .i64)) (h4 : P.underlying f4.type = some (.int .i64))
    (hf : DataW.trod enc P w 0 (fun _ => true) held fuel t [v] = some x0) :
    ∃ (a : Option Addr) (c : Nat) (l : List TopM.Hop), v = .slice a l.length c ∧ Rd w a l.length 5 (hpc l) ∧ l.length ≤ c ∧ c ≤ maxLen ∧ ∀ h ∈ l, HopWf h := by
  rcases open_slice ht hf with ⟨hcs, _⟩ | ⟨a, len, cap, m, n, D, Pl, hcs, _, hl, hm, hmm, _, hx⟩
  · simp only [List.cons.injEq, and_true] at hcs
    subst hcs
    exact ⟨none, 0, [], rfl, Rd.zero _ _ _ _, Nat.le_refl _, by unfold maxLen; omega, by intro p hp; cases hp⟩
  · simp only [List.cons.injEq, and_true] at hcs
    subst hcs
    simp at hmm
    have hV : ∀ i, i < len → ∃ q : TopM.Hop, (w.cell? (a.add (i * 5)) = some (.int .i64 q.1) ∧ w.cell? (a.add (i * 5 + 1)) = some (.int .i64 q.2.1) ∧ w.cell? (a.add (i * 5 + 2)) = some (.int .i64 q.2.2.1) ∧ w.cell? (a.add (i * 5 + 3)) = some (.int .i64 q.2.2.2.1) ∧ w.cell? (a.add (i * 5 + 4)) = some (.int .i64 q.2.2.2.2)) ∧ HopWf q := by
      intro i hi
      obtain ⟨cs', g1, g2⟩ := hx i (by omega)
      rw [ce] at g1
      obtain ⟨_, hlen, hcell⟩ := World.cells?_some g1
      obtain ⟨y0, y1, y2, y3, y4, k, _, k0, k1, k2, k3, k4⟩ := trod_struct5 he g2
      match cs', hlen with
      | [v0, v1, v2, v3, v4], _ =>
        simp [o0, c0] at k0
        simp [o1, c1] at k1
        simp [o2, c2] at k2
        simp [o3, c3] at k3
        simp [o4, c4] at k4
        have e0 := hcell 0 (by omega)
        have e1 := hcell 1 (by omega)
        have e2 := hcell 2 (by omega)
        have e3 := hcell 3 (by omega)
        have e4 := hcell 4 (by omega)
        rw [add_add] at e0 e1 e2 e3 e4
        obtain ⟨a0, q0, _, w0⟩ := DataW.trod_int h0 k0
        obtain ⟨a1, q1, _, w1⟩ := DataW.trod_int h1 k1
        obtain ⟨a2, q2, _, w2⟩ := DataW.trod_int h2 k2
        obtain ⟨a3, q3, _, w3⟩ := DataW.trod_int h3 k3
        obtain ⟨a4, q4, _, w4⟩ := DataW.trod_int h4 k4
        simp only [List.cons.injEq, and_true] at q0 q1 q2 q3 q4
        subst q0 q1 q2 q3 q4
        exact ⟨(a0, a1, a2, a3, a4), ⟨by simpa using e0, by simpa using e1, by simpa using e2, by simpa using e3, by simpa using e4⟩, i64_bounds w0, i64_bounds w1, i64_bounds w2, i64_bounds w3, i64_bounds w4⟩
    obtain ⟨q, hq⟩ := choose_lt hV
    have hlen : ((List.range len).map q).length = len := by simp
    refine ⟨some a, cap, (List.range len).map q, by rw [hlen], ?_, by rw [hlen]; exact hl, hm, ?_⟩
    · rw [hlen]
      refine rd_cells (by omega) fun i hi => ?_
      obtain ⟨j, hj⟩ : ∃ j, i = j * 5 ∨ i = j * 5 + 1 ∨ i = j * 5 + 2 ∨ i = j * 5 + 3 ∨ i = j * 5 + 4 := ⟨i / 5, by omega⟩
      unfold hpc
      rcases hj with rfl | rfl | rfl | rfl | rfl
      · rw [(hq j (by omega)).1.1, show j * 5 % 5 = 0 by omega, show j * 5 / 5 = j by omega]
        simp [show j < len by omega]
      · rw [(hq j (by omega)).1.2.1, show (j * 5 + 1) % 5 = 1 by omega, show (j * 5 + 1) / 5 = j by omega]
        simp [show j < len by omega]
      · rw [(hq j (by omega)).1.2.2.1, show (j * 5 + 2) % 5 = 2 by omega, show (j * 5 + 2) / 5 = j by omega]
        simp [show j < len by omega]
      · rw [(hq j (by omega)).1.2.2.2.1, show (j * 5 + 3) % 5 = 3 by omega, show (j * 5 + 3) / 5 = j by omega]
        simp [show j < len by omega]
      · rw [(hq j (by omega)).1.2.2.2.2, show (j * 5 + 4) % 5 = 4 by omega, show (j * 5 + 4) / 5 = j by omega]
        simp [show j < len by omega]
    · intro p hp
      obtain ⟨j, hj, rfl⟩ := List.mem_map.1 hp
      exact (hq j (by simpa using hj)).2
theorem arg_hops {t e : TypeId} {f0 f1 f2 f3 f4 : Field} {v : Value} {d : DataW H} {p : List MemPlace} (ht : P.underlying t = some (.slice e)) (he : P.underlying e = some (.struct #[f0, f1, f2, f3, f4]))
    (ce : P.cellsOf e = 5) (o0 : f0.offset = 0) (o1 : f1.offset = 1) (o2 : f2.offset = 2) (o3 : f3.offset = 3) (o4 : f4.offset = 4) (c0 : P.cellsOf f0.type = 1) (c1 : P.cellsOf f1.type = 1) (c2 : P.cellsOf f2.type = 1) (c3 : P.cellsOf f3.type = 1) (c4 : P.cellsOf f4.type = 1)
    (h0 : P.underlying f0.type = some (.int .i64)) (h1 : P.underlying f1.type = some (.int .i64)) (h2 : P.underlying f2.type = some (.int .i64)) (h3 : P.underlying f3.type = some (.int .i64)) (h4 : P.underlying f4.type = some (.int .i64))
    (hv : Value.okWide P w r b0 t v) (h : DataW.Trod enc P w 0 (fun _ => true) held t v d p) :
    ∃ (a : Option Addr) (c : Nat) (l : List TopM.Hop), v = .slice a l.length c ∧ Rd w a l.length 5 (hpc l) ∧ l.length ≤ c ∧ c ≤ maxLen ∧ ∀ h ∈ l, HopWf h := by
  obtain ⟨a, n, c, rfl⟩ := okWide_slice ht hv
  obtain ⟨fuel, hf⟩ := h
  exact cell_hops ht he ce o0 o1 o2 o3 o4 c0 c1 c2 c3 c4 h0 h1 h2 h3 h4 (by simpa [Value.cells] using hf)
end
end CW
end Go.Proofs.YteebghoijaaakaaGreat

/- An argument that is a list of readings, opened. By the prover of this repo. -/
import Derived.Test.YtkjihbaiofocgaaArgs
import Derived.Test.YtkjihbaiofocgaaBagD
import Derived.Deep.SlicePairs
namespace Go.Proofs.Ytkjihbaiofocgaa
open Go.ChangeShapes Go.WideShapes Go.ChangeAt Go.RowKit Go.Joins Go.Deep
open TwigM BagM

section
variable {H : Type} {enc : TypeId × Value → H} {P : Program} {w : World} {held : Bool} {r : Reach} {b0 : Nat}
theorem arg_reads {t e : TypeId} {f0 f1 : Field} {v : Value} {d : DataW H} {p : List MemPlace} (ht : P.underlying t = some (.slice e)) (he : P.underlying e = some (.struct #[f0, f1]))
    (ce : P.cellsOf e = 2) (o0 : f0.offset = 0) (o1 : f1.offset = 1) (c0 : P.cellsOf f0.type = 1) (c1 : P.cellsOf f1.type = 1) (h0 : P.underlying f0.type = some (.int .i64)) (h1 : P.underlying f1.type = some (.int .i64))
    (hv : Value.okWide P w r b0 t v) (h : DataW.Trod enc P w 0 (fun _ => true) held t v d p) :
    ∃ (a : Option Addr) (c : Nat) (l : List Rg), v = .slice a l.length c ∧ Rd w a l.length 2 (ndc l) ∧ (a = none → l.length = 0) ∧ l.length ≤ c ∧ c ≤ maxLen ∧ RgWf l := by
  obtain ⟨a, n, c, rfl⟩ := okWide_slice ht hv
  obtain ⟨fuel, hf⟩ := h
  rcases open_slice_pairs ht he ce o0 o1 c0 c1 hf with ⟨hcs, _⟩ | ⟨x, len, cap, m, k, V0, V1, D0, D1, P0, P1, hcs, _, hl, hm, hmm, _, hx⟩
  · simp [Value.cells] at hcs
    obtain ⟨rfl, rfl, rfl⟩ := hcs
    exact ⟨none, 0, [], rfl, Rd.zero _ _ _ _, fun _ => rfl, Nat.le_refl _, by unfold maxLen; omega, by intro p hp; cases hp⟩
  · simp [Value.cells] at hcs
    obtain ⟨rfl, rfl, rfl⟩ := hcs
    simp at hmm
    have hV : ∀ i, i < n → ∃ q : Rg, V0 i = .int .i64 q.1 ∧ V1 i = .int .i64 q.2 ∧ (Lit.int .i64 q.1).wf = true ∧ (Lit.int .i64 q.2).wf = true := by
      intro i hi
      obtain ⟨_, _, g0, g1⟩ := hx i (by omega)
      obtain ⟨a0, e0, _, w0⟩ := DataW.trod_int h0 g0
      obtain ⟨a1, e1, _, w1⟩ := DataW.trod_int h1 g1
      simp only [List.cons.injEq, and_true] at e0 e1
      exact ⟨(a0, a1), e0, e1, w0, w1⟩
    obtain ⟨q, hq⟩ := choose_lt hV
    have hlen : ((List.range n).map q).length = n := by simp
    refine ⟨some x, c, (List.range n).map q, by rw [hlen], ?_, (fun h => by cases h), by rw [hlen]; exact hl, hm, ?_⟩
    · rw [hlen]
      refine rd_cells (by omega) fun i hi => ?_
      obtain ⟨j, rfl | rfl⟩ : ∃ j, i = j * 2 ∨ i = j * 2 + 1 := ⟨i / 2, by omega⟩
      · have hj : j < n := by omega
        rw [(hx j (by omega)).1, (hq j hj).1]
        unfold ndc
        rw [if_pos (by omega), show j * 2 / 2 = j by omega]
        simp [hj]
      · have hj : j < n := by omega
        rw [(hx j (by omega)).2.1, (hq j hj).2.1]
        unfold ndc
        rw [if_neg (by omega), show (j * 2 + 1) / 2 = j by omega]
        simp [hj]
    · intro p hp
      obtain ⟨j, hj, rfl⟩ := List.mem_map.1 hp
      have hj2 := hq j (by simpa using hj)
      exact ⟨(i64_bounds hj2.2.2.1).1, (i64_bounds hj2.2.2.1).2, (i64_bounds hj2.2.2.2).1, (i64_bounds hj2.2.2.2).2⟩
theorem cell_reads {t e : TypeId} {f0 f1 : Field} {v : Value} {fuel : Nat} {x0 : DataW H × List MemPlace} (ht : P.underlying t = some (.slice e)) (he : P.underlying e = some (.struct #[f0, f1]))
    (ce : P.cellsOf e = 2) (o0 : f0.offset = 0) (o1 : f1.offset = 1) (c0 : P.cellsOf f0.type = 1) (c1 : P.cellsOf f1.type = 1) (h0 : P.underlying f0.type = some (.int .i64)) (h1 : P.underlying f1.type = some (.int .i64))
    (hf : DataW.trod enc P w 0 (fun _ => true) held fuel t [v] = some x0) :
    ∃ (a : Option Addr) (c : Nat) (l : List Rg), v = .slice a l.length c ∧ Rd w a l.length 2 (ndc l) ∧ (a = none → l.length = 0) ∧ l.length ≤ c ∧ c ≤ maxLen ∧ RgWf l := by
  rcases open_slice_pairs ht he ce o0 o1 c0 c1 hf with ⟨hcs, _⟩ | ⟨x, len, cap, m, k, V0, V1, D0, D1, P0, P1, hcs, _, hl, hm, hmm, _, hx⟩
  · simp only [List.cons.injEq, and_true] at hcs
    subst hcs
    exact ⟨none, 0, [], rfl, Rd.zero _ _ _ _, fun _ => rfl, Nat.le_refl _, by unfold maxLen; omega, by intro p hp; cases hp⟩
  · simp only [List.cons.injEq, and_true] at hcs
    subst hcs
    simp at hmm
    obtain ⟨n, rfl⟩ : ∃ n, n = len := ⟨_, rfl⟩
    obtain ⟨c, rfl⟩ : ∃ c, c = cap := ⟨_, rfl⟩
    have hV : ∀ i, i < n → ∃ q : Rg, V0 i = .int .i64 q.1 ∧ V1 i = .int .i64 q.2 ∧ (Lit.int .i64 q.1).wf = true ∧ (Lit.int .i64 q.2).wf = true := by
      intro i hi
      obtain ⟨_, _, g0, g1⟩ := hx i (by omega)
      obtain ⟨a0, e0, _, w0⟩ := DataW.trod_int h0 g0
      obtain ⟨a1, e1, _, w1⟩ := DataW.trod_int h1 g1
      simp only [List.cons.injEq, and_true] at e0 e1
      exact ⟨(a0, a1), e0, e1, w0, w1⟩
    obtain ⟨q, hq⟩ := choose_lt hV
    have hlen : ((List.range n).map q).length = n := by simp
    refine ⟨some x, c, (List.range n).map q, by rw [hlen], ?_, (fun h => by cases h), by rw [hlen]; exact hl, hm, ?_⟩
    · rw [hlen]
      refine rd_cells (by omega) fun i hi => ?_
      obtain ⟨j, rfl | rfl⟩ : ∃ j, i = j * 2 ∨ i = j * 2 + 1 := ⟨i / 2, by omega⟩
      · have hj : j < n := by omega
        rw [(hx j (by omega)).1, (hq j hj).1]
        unfold ndc
        rw [if_pos (by omega), show j * 2 / 2 = j by omega]
        simp [hj]
      · have hj : j < n := by omega
        rw [(hx j (by omega)).2.1, (hq j hj).2.1]
        unfold ndc
        rw [if_neg (by omega), show (j * 2 + 1) / 2 = j by omega]
        simp [hj]
    · intro p hp
      obtain ⟨j, hj, rfl⟩ := List.mem_map.1 hp
      have hj2 := hq j (by simpa using hj)
      exact ⟨(i64_bounds hj2.2.2.1).1, (i64_bounds hj2.2.2.1).2, (i64_bounds hj2.2.2.2).1, (i64_bounds hj2.2.2.2).2⟩
theorem arg_two_reads {t ts e : TypeId} {f0 f1 : Field} {v : Value} {d : DataW H} {p : List MemPlace} (hta : P.underlying ts = some (.array 2 t)) (hct : P.cellsOf t = 1) (hcts : P.cellsOf ts = 2) (ht : P.underlying t = some (.slice e)) (he : P.underlying e = some (.struct #[f0, f1]))
    (ce : P.cellsOf e = 2) (o0 : f0.offset = 0) (o1 : f1.offset = 1) (c0 : P.cellsOf f0.type = 1) (c1 : P.cellsOf f1.type = 1) (h0 : P.underlying f0.type = some (.int .i64)) (h1 : P.underlying f1.type = some (.int .i64))
    (hv : Value.okWide P w r b0 ts v) (h : DataW.Trod enc P w 0 (fun _ => true) held ts v d p) :
    ∃ (a : Option Addr) (c : Nat) (l : List Rg) (a' : Option Addr) (c' : Nat) (l' : List Rg), v = .agg #[.slice a l.length c, .slice a' l'.length c'] ∧ (Rd w a l.length 2 (ndc l) ∧ (a = none → l.length = 0) ∧ l.length ≤ c ∧ c ≤ maxLen ∧ RgWf l) ∧
      (Rd w a' l'.length 2 (ndc l') ∧ (a' = none → l'.length = 0) ∧ l'.length ≤ c' ∧ c' ≤ maxLen ∧ RgWf l') := by
  obtain ⟨cs, rfl, hsz⟩ := array_cells hta hv
  obtain ⟨v0, v1, rfl⟩ := array2 (hsz.trans hcts)
  obtain ⟨fuel, hf⟩ := h
  obtain ⟨y0, y1, m, _, g0, g1⟩ := trod_array2 hta hct hf
  obtain ⟨a, c, l, rfl, q⟩ := cell_reads ht he ce o0 o1 c0 c1 h0 h1 g0
  obtain ⟨a', c', l', rfl, q'⟩ := cell_reads ht he ce o0 o1 c0 c1 h0 h1 g1
  exact ⟨a, c, l, a', c', l', rfl, q, q'⟩
end
end Go.Proofs.Ytkjihbaiofocgaa

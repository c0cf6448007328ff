/- Lists of runs as slices: reading one, one that the call owns. By the prover of this repo. -/
import Derived.Test.YtbibchdjojmpaaaTileRO
import Derived.Laws.StructEq
namespace Go.Proofs.Ytbibchdjojmpaaa
open Go.RowKit
open TwigM TileM

abbrev rv (p : Run) : Value := .agg #[.int .i64 p.1, .int .i64 p.2]
/-- The cells of a list of runs. -/
def rnc (l : List Run) (j : Nat) : Value := .int .i64 (if j % 2 = 0 then (l.getD (j / 2) (0, 0)).1 else (l.getD (j / 2) (0, 0)).2)
def rnv (l : List Run) : List Value := l.flatMap fun p => [.int .i64 p.1, .int .i64 p.2]
/-- A slice value reads as a list of runs. -/
def Rns (w : World) (v : Value) (l : List Run) : Prop := ∃ A c, v = .slice A l.length c ∧ (A = none → l.length = 0) ∧ l.length ≤ c ∧ c ≤ maxLen ∧ Rd w A l.length 2 (rnc l)
section
variable {w w' : World} {v : Value} {l : List Run}
theorem Rns.kept (h : Rns w v l) (hb : Below w.heap.size w w') : Rns w' v l := by
  obtain ⟨A, c, h1, h2, h3, h4, h5⟩ := h
  exact ⟨A, c, h1, h2, h3, h4, h5.kept hb⟩
theorem Rns.nil (w : World) : Rns w (.slice none 0 0) [] := ⟨none, 0, rfl, fun _ => rfl, Nat.le_refl _, by unfold maxLen; omega, Rd.zero _ _ _ _⟩
end
/-- The cells of element k. -/
theorem rn_at {w : World} {A : Option Addr} {l : List Run} (h : Rd w A l.length 2 (rnc l)) {k : Nat} (hk : k < l.length) :
    ∃ b off, A = some ⟨b, off, none⟩ ∧ b < w.heap.size ∧ w.cell? ⟨b, off + k * 2, none⟩ = some (.int .i64 l[k].1) ∧ w.cell? ⟨b, off + k * 2 + 1, none⟩ = some (.int .i64 l[k].2) := by
  obtain ⟨b, off, e, hb, hc⟩ := h (by omega)
  refine ⟨b, off, e, hb, ?_, ?_⟩
  · have := hc (k * 2) (by omega)
    rw [this]
    simp [rnc, hk]
  · have := hc (k * 2 + 1) (by omega)
    rw [Nat.add_assoc, this]
    have h1 : (k * 2 + 1) % 2 = 1 := by omega
    have h2 : (k * 2 + 1) / 2 = k := by omega
    simp [rnc, h1, h2, hk]
theorem elRun : Elem Try.prog 60 65 (rv (0, 0)) 2 16 := ⟨Try.underlying60, by kernel_rfl, rfl, by omega⟩
theorem rnv_length (l : List Run) : (rnv l).length = l.length * 2 := by
  induction l with
  | nil => rfl
  | cons p l ih => simp [rnv] at *; omega
theorem rnv_append (l m : List Run) : rnv (l ++ m) = rnv l ++ rnv m := by simp [rnv]
theorem rnv_snoc (l : List Run) (p : Run) : rnv (l ++ [p]) = rnv l ++ [.int .i64 p.1, .int .i64 p.2] := by simp [rnv]
theorem rnc_cons (p : Run) (l : List Run) (j : Nat) : rnc (p :: l) (j + 2) = rnc l j := by
  have h1 : (j + 2) % 2 = j % 2 := by omega
  have h2 : (j + 2) / 2 = j / 2 + 1 := by omega
  simp [rnc, h1, h2]
theorem rnv_get : ∀ (l : List Run) (i : Nat), i < l.length * 2 → (rnv l)[i]? = some (rnc l i)
  | [], i, h => by simp at h
  | p :: l, 0, _ => by simp [rnv, rnc]
  | p :: l, 1, _ => by simp [rnv, rnc]
  | p :: l, i + 2, h => by
    rw [rnc_cons, ← rnv_get l i (by simp at h; omega)]
    simp [rnv]
theorem rnv_range (l : List Run) : (List.range (l.length * 2)).map (rnc l) = rnv l := by
  apply List.ext_getElem?
  intro i
  by_cases h : i < l.length * 2
  · rw [rnv_get l i h]; simp [h]
  · rw [List.getElem?_eq_none (by simp; omega), List.getElem?_eq_none (by rw [rnv_length]; omega)]
theorem rnc_one (l : List Run) (i : Nat) : (rnc l i).oneCell' = true := rfl
/-- What is owned reads as a list. -/
theorem own_rns {w : World} {base n : Nat} {v : Value} {l : List Run} (hn : l.length = n) (h : w.ownsRow base 65 2 v n (rnv l)) : Rns w v l := by
  subst hn
  obtain ⟨A, c, rfl, h1, h2, h3⟩ := own_form h
  refine ⟨A, c, rfl, h1, h2, h3, (own_rd h).congr fun i hi => ?_⟩
  show (rnv l).getD i undef = _
  rw [List.getD_eq_getElem?_getD, rnv_get l i hi]
  rfl
end Go.Proofs.Ytbibchdjojmpaaa

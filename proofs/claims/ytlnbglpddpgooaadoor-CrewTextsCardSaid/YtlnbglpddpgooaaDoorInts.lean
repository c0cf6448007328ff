/- Lists of int as slices: reading one, one that the call owns, a clone. By the prover of this repo. -/
import Derived.Test.YtlnbglpddpgooaaDoorOwn
import Derived.Deep.RegionHeldLaw
import Derived.Deep.AppendLies
namespace Go.Proofs.YtlnbglpddpgooaaDoor
open Go.RowKit

/-- The cells of a list of int. -/
def ic (l : List Int) (j : Nat) : Value := .int .i64 (l.getD j 0)
def iv (l : List Int) : List Value := l.map (.int .i64)
def ItWf (l : List Int) : Prop := ∀ x ∈ l, -9223372036854775808 ≤ x ∧ x ≤ 9223372036854775807
/-- A slice value reads as a list of int. -/
def Its (w : World) (v : Value) (l : List Int) : Prop := ∃ A c, v = .slice A l.length c ∧ (A = none → l.length = 0) ∧ l.length ≤ c ∧ c ≤ maxLen ∧ Rd w A l.length 1 (ic l)
section
variable {w w' : World} {v : Value} {l : List Int}
theorem Its.kept (h : Its w v l) (hb : Below w.heap.size w w') : Its w' v l := by
  obtain ⟨A, c, h1, h2, h3, h4, h5⟩ := h
  exact ⟨A, c, h1, h2, h3, h4, h5.kept hb⟩
theorem Its.nil (w : World) : Its w (.slice none 0 0) [] := ⟨none, 0, rfl, fun _ => rfl, Nat.le_refl _, by unfold maxLen; omega, Rd.zero _ _ _ _⟩
end
theorem it_at {w : World} {A : Option Addr} {l : List Int} (h : Rd w A l.length 1 (ic l)) {k : Nat} (hk : k < l.length) :
    ∃ b off, A = some ⟨b, off, none⟩ ∧ b < w.heap.size ∧ w.cell? ⟨b, off + k, none⟩ = some (.int .i64 l[k]) := by
  obtain ⟨b, off, e, hb, hc⟩ := h (by omega)
  refine ⟨b, off, e, hb, ?_⟩
  rw [hc k (by omega)]
  simp [ic, hk]
theorem iv_length (l : List Int) : (iv l).length = l.length := by simp [iv]
theorem iv_append (l m : List Int) : iv (l ++ m) = iv l ++ iv m := by simp [iv]
theorem iv_snoc (l : List Int) (x : Int) : iv (l ++ [x]) = iv l ++ [.int .i64 x] := by simp [iv]
theorem iv_get (l : List Int) (i : Nat) (h : i < l.length) : (iv l)[i]? = some (ic l i) := by simp [iv, ic, h]
theorem iv_range (l : List Int) : (List.range l.length).map (ic l) = iv l := by
  apply List.ext_getElem?
  intro i
  by_cases h : i < l.length
  · rw [iv_get l i h]; simp [h]
  · rw [List.getElem?_eq_none (by simp; omega), List.getElem?_eq_none (by rw [iv_length]; omega)]
theorem ic_one (l : List Int) (i : Nat) : (ic l i).oneCell' = true := rfl
theorem elInt : Elem Tryd.prog 23 3 (.int .i64 0) 1 8 := ⟨Tryd.underlying23, by kernel_rfl, rfl, by omega⟩
/-- What is owned reads as a list. -/
theorem own_its {w : World} {base n : Nat} {v : Value} {l : List Int} (hn : l.length = n) (h : w.ownsRow base 3 1 v n (iv l)) : Its w v l := by
  subst hn
  obtain ⟨A, c, rfl, h1, h2, h3⟩ := own_form h
  refine ⟨A, c, rfl, h1, h2, h3, (own_rd h).congr fun i hi => ?_⟩
  show (iv l).getD i undef = _
  rw [List.getD_eq_getElem?_getD, iv_get l i (by omega)]
  rfl
theorem own_kept1 {w w' : World} {base : Nat} {e : TypeId} {size : Nat} {v : Value} {n : Nat} {xs : List Value} (h : w.ownsRow base e size v n xs) (hb : Below w.heap.size w w') : w'.ownsRow base e size v n xs := by
  obtain ⟨h1, h2⟩ := h
  refine ⟨h1, ?_⟩
  rcases h2 with h2 | ⟨g, cap, cur, k1, k2, k3, k4⟩
  · exact .inl h2
  · exact .inr ⟨g, cap, cur, k1, k2, (hb.block g (Array.getElem?_eq_some_iff.1 k3).1).trans k3, k4⟩
theorem own_drewN {w : World} {base : Nat} {e : TypeId} {size : Nat} {v : Value} {n : Nat} {xs : List Value} (h : w.ownsRow base e size v n xs) (k : Nat) : (w.drewN k).ownsRow base e size v n xs := h
/-- A literal's cells. -/
theorem lit_its (l : List Int) (w : World) (t : TypeId) : Rd (w.alloc (.cells (iv l).toArray t)) (some ⟨w.heap.size, 0, none⟩) l.length 1 (ic l) :=
  Rd.of_blk (Blk.made w t _) 0 (by simp [iv_length]) (by intro i hi; rw [Nat.zero_add, List.getElem?_toArray]; exact iv_get l i (by omega))

end Go.Proofs.YtlnbglpddpgooaaDoor

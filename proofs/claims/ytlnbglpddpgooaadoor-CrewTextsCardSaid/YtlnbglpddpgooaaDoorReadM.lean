/- What crew.Read answers: plain definitions. By the prover of this repo. -/
import Derived.Test.YtlnbglpddpgooaaDoorSplD
import Derived.Test.YtlnbglpddpgooaaDoorTextW
namespace Go.Proofs.YtlnbglpddpgooaaDoor

/-- A row's two ends. -/
def rowP (r : ByteArray) : Option (Nat × Nat) :=
  if (senF (cutF r).1).2 = true ∧ (senF (if (cutF r).2.2 = true then (cutF r).2.1 else (cutF r).1)).2 = true then some ((senF (cutF r).1).1, (senF (if (cutF r).2.2 = true then (cutF r).2.1 else (cutF r).1)).1) else none
/-- A set with a span of sensors. -/
def addF : Nat → Int → Int → Int
  | 0, s, _ => s
  | k + 1, s, i => addF k (withF s i) (i + 1)
theorem addF_zero (s i : Int) : addF 0 s i = s := rfl
theorem addF_succ (k : Nat) (s i : Int) : addF (k + 1) s i = addF k (withF s i) (i + 1) := rfl
theorem addF_bd : ∀ (k : Nat) (s i : Int), 0 ≤ s → s < 18446744073709551616 → 0 ≤ addF k s i ∧ addF k s i < 18446744073709551616
  | 0, _, _, h, h1 => ⟨h, h1⟩
  | k + 1, s, i, h, h1 => addF_bd k _ _ (with_bd s i h h1).1 (with_bd s i h h1).2
def spanF (s : Int) (p : Nat × Nat) : Int := addF (p.2 + 1 - p.1) s p.1
/-- The set of rows. -/
def parseG : Int → List ByteArray → Option Int
  | s, [] => some s
  | s, r :: rs => match rowP r with
    | none => none
    | some p => parseG (spanF s p) rs
theorem parseG_nil (s : Int) : parseG s [] = some s := rfl
theorem parseG_no {s : Int} {r : ByteArray} {rs : List ByteArray} (h : rowP r = none) : parseG s (r :: rs) = none := by simp only [parseG, h]
theorem parseG_on {s : Int} {r : ByteArray} {rs : List ByteArray} {p : Nat × Nat} (h : rowP r = some p) : parseG s (r :: rs) = parseG (spanF s p) rs := by simp only [parseG, h]
theorem parseG_app : ∀ (a b : List ByteArray) (s : Int), parseG s (a ++ b) = (parseG s a).bind fun s' => parseG s' b
  | [], b, s => rfl
  | r :: a, b, s => by
    rw [List.cons_append]
    cases h : rowP r with
    | none => rw [parseG_no h, parseG_no h]; rfl
    | some p => rw [parseG_on h, parseG_on h, parseG_app a b]
theorem parseG_bd : ∀ (l : List ByteArray) (s s' : Int), 0 ≤ s → s < 18446744073709551616 → parseG s l = some s' → 0 ≤ s' ∧ s' < 18446744073709551616
  | [], s, s', h0, h1, h => by cases h; exact ⟨h0, h1⟩
  | r :: l, s, s', h0, h1, h => by
    cases hr : rowP r with
    | none => rw [parseG_no hr] at h; cases h
    | some p =>
      rw [parseG_on hr] at h
      have := addF_bd (p.2 + 1 - p.1) s p.1 h0 h1
      exact parseG_bd l _ s' this.1 this.2 h
theorem parseG_pre {a l : List ByteArray} {s : Int} (h : a <+: l) (hn : parseG s a = none) : parseG s l = none := by
  obtain ⟨b, rfl⟩ := h
  rw [parseG_app, hn]; rfl
/-- The set of a text. -/
def readG (t : ByteArray) : Option Int → Int × Bool
  | none => (0, false)
  | some s => if (textF s.toNat).1 = t then (s, true) else (0, false)
def readF (t : ByteArray) : Int × Bool := if t = ⟨#[45]⟩ then (0, true) else readG t (parseG 0 (rowsC t))
end Go.Proofs.YtlnbglpddpgooaaDoor

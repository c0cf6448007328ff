/- A set's text: which rows it has, in plain words. By the prover of this repo. -/
import Derived.Test.YtlnbglpddpgooaaDoorBitL
import Derived.Test.YtlnbglpddpgooaaDoorDig
namespace Go.Proofs.YtlnbglpddpgooaaDoor

/-- The last of the sensors that follow one upon the other from one on. -/
def endG (s : Int) : Nat → Int → Int
  | 0, e => e
  | f + 1, e => if hasF s (e + 1) = true then endG s f (e + 1) else e
def endF (s i : Int) : Int := endG s 48 i
theorem has_top (s i : Int) (h : 48 ≤ i) : hasF s i = false := by unfold hasF; exact decide_eq_false fun k => by omega
theorem endG_more (s : Int) : ∀ (f g : Nat) (e : Int), (48 - e).toNat ≤ f → (48 - e).toNat ≤ g → endG s f e = endG s g e
  | 0, 0, _, _, _ => rfl
  | 0, g + 1, e, h, _ => by rw [endG, endG, if_neg (by rw [has_top s (e + 1) (by omega)]; decide)]
  | f + 1, 0, e, _, h => by rw [endG, endG, if_neg (by rw [has_top s (e + 1) (by omega)]; decide)]
  | f + 1, g + 1, e, h1, h2 => by
    rw [endG, endG]
    split
    · rename_i hs
      by_cases he : e + 1 < 48
      · exact endG_more s f g (e + 1) (by omega) (by omega)
      · rw [has_top s (e + 1) (by omega)] at hs; cases hs
    · rfl
theorem endF_on (s i : Int) (h : 0 ≤ i) (hs : hasF s (i + 1) = true) : endF s i = endF s (i + 1) := by
  unfold endF
  rw [endG, if_pos hs]
  exact endG_more s 47 48 (i + 1) (by omega) (by omega)
theorem endF_off (s i : Int) (hs : hasF s (i + 1) = false) : endF s i = i := by
  unfold endF
  rw [endG, if_neg (by rw [hs]; decide)]
/-- A run's row. -/
def rowF (s : Int) (i : Nat) : ByteArray := if (i : Int) < endF s i then digS i ++ (⟨#[45]⟩ ++ digS (endF s i)) else digS i
/-- The rows of sensors. -/
def rowsF (s : Int) (l : List Nat) : List ByteArray := (l.filter fun i : Nat => !hasF s ((i : Int) - 1)).map (rowF s)
theorem rowsF_snoc (s : Int) (l : List Nat) (x : Nat) : rowsF s (l ++ [x]) = rowsF s l ++ if hasF s ((x : Int) - 1) = true then [] else [rowF s x] := by
  unfold rowsF
  rw [List.filter_append, List.map_append]
  congr 1
  cases h : hasF s ((x : Int) - 1) <;> simp [h]
theorem rowsF_length (s : Int) (l : List Nat) : (rowsF s l).length ≤ l.length := by
  unfold rowsF
  rw [List.length_map]
  exact List.length_filter_le _ _
theorem endG_ge (s : Int) : ∀ (f : Nat) (e : Int), e ≤ endG s f e
  | 0, e => Int.le_refl _
  | f + 1, e => by
    rw [endG]
    split
    · have := endG_ge s f (e + 1); omega
    · exact Int.le_refl _
theorem endG_lt (s : Int) : ∀ (f : Nat) (e : Int), e < 48 → endG s f e < 48
  | 0, e, h => h
  | f + 1, e, h => by
    rw [endG]
    split
    · rename_i hs
      refine endG_lt s f (e + 1) ?_
      refine Int.not_le.1 fun k => ?_
      rw [has_top s (e + 1) k] at hs
      cases hs
    · exact h
theorem digS_size (n : Int) (h : n < 48) : (digS n).size ≤ 2 := by
  unfold digS
  split
  · decide
  · rename_i h0
    have hn : n.toNat < 48 := by omega
    generalize n.toNat = m at hn
    show (digF m).length ≤ 2
    by_cases h1 : m < 10
    · rw [digF_small h1]; simp
    · rw [digF_more h1, digF_small (by omega)]; simp
theorem rowF_size (s : Int) (i : Nat) (h : i < 48) : (rowF s i).size ≤ 5 := by
  have h1 := digS_size i (by omega)
  have h2 := digS_size (endF s i) (endG_lt s 48 i (by omega))
  unfold rowF
  split
  · rw [ByteArray.size_append, ByteArray.size_append]
    have : (⟨#[45]⟩ : ByteArray).size = 1 := rfl
    omega
  · omega
end Go.Proofs.YtlnbglpddpgooaaDoor

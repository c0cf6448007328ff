/- Plain facts on lists of nodes with weights: their sum, their order, each number once. No program in sight. By the prover of this repo. -/
import Derived.Test.YtbfecpomlkapdaaTwigM
import Derived.WalkKit
namespace Go.Proofs.Ytbfecpomlkapdaa
namespace RollM
open TwigM Go.RowKit

abbrev Nd := Int × Int

/-- The weight of all, from n on. -/
def totGo (n : Int) : List Nd → Int × Bool
  | [] => (n, true)
  | p :: l => if p.2 < 0 ∨ 72057594037927935 - n < p.2 then (0, false) else totGo (n + p.2) l
def totF (l : List Nd) : Int × Bool := totGo 0 l
/-- Are all nodes, rising, of some weight? -/
def rightGo (L last : Int) : List Nd → Bool
  | [] => true
  | p :: r => if p.1 ≤ last ∨ rightB L p.1 = false ∨ p.2 < 1 then false else rightGo L p.1 r
def uniB (L : Int) : Bool := decide (1 ≤ L ∧ L ≤ 48)
def rollB (L : Int) (r : List Nd) : Bool := rightGo L 0 r && ((totF r).2 && uniB L)
/-- A node's weight. -/
def findF (id : Int) : List Nd → Int
  | [] => 0
  | p :: r => if p.1 = id then p.2 else findF id r

section
variable (lt : Nd → Nd → Bool)
/-- One more, behind all that it isn't ahead of. -/
def ins (x : Nd) : List Nd → List Nd
  | [] => [x]
  | y :: l => if lt x y = true then x :: y :: l else y :: ins x l
def isort (l : List Nd) : List Nd := l.foldl (fun acc x => ins lt x acc) []
/-- Two as one: of the first as long as none of the second stands ahead. -/
def mrg : List Nd → List Nd → List Nd
  | [], b => b
  | a :: A, [] => a :: A
  | a :: A, b :: B => if lt b a = true then b :: mrg (a :: A) B else a :: mrg A (b :: B)
termination_by a b => a.length + b.length
end
section
variable {lt : Nd → Nd → Bool}
/-- A strict order in which what is not apart is alike. -/
structure Ord (lt : Nd → Nd → Bool) : Prop where
  tr : ∀ x y z, lt x y = true → lt y z = true → lt x z = true
  ne : ∀ x y z, lt x z = true → lt x y = true ∨ lt y z = true
  irr : ∀ x, lt x x = false

theorem mrg_nil (b : List Nd) : mrg lt [] b = b := by rw [mrg]
theorem mrg_nil' (a : List Nd) : mrg lt a [] = a := by cases a <;> rw [mrg]
theorem mrg_cons (a b : Nd) (A B : List Nd) : mrg lt (a :: A) (b :: B) = if lt b a = true then b :: mrg lt (a :: A) B else a :: mrg lt A (b :: B) := by rw [mrg]

theorem mrg_ins (O : Ord lt) (x : Nd) : ∀ (n : Nat) (A B : List Nd), A.length + B.length ≤ n → mrg lt A (ins lt x B) = ins lt x (mrg lt A B) := by
  intro n
  induction n with
  | zero =>
    intro A B h
    have hA : A = [] := List.eq_nil_of_length_eq_zero (by omega)
    subst hA
    rw [mrg_nil, mrg_nil]
  | succ n ih =>
    intro A B h
    cases A with
    | nil => rw [mrg_nil, mrg_nil]
    | cons a A =>
      cases B with
      | nil =>
        rw [mrg_nil', ins, ins, mrg_cons]
        by_cases h1 : lt x a = true
        · rw [if_pos h1, if_pos h1, mrg_nil']
        · rw [if_neg h1, if_neg h1]
          have := ih A [] (by simp at h ⊢; omega)
          rw [ins, mrg_nil'] at this
          rw [this]
      | cons b B =>
        simp only [List.length_cons] at h
        by_cases h1 : lt x b = true
        · rw [ins, if_pos h1, mrg_cons, mrg_cons]
          by_cases h2 : lt x a = true
          · rw [if_pos h2]
            by_cases h3 : lt b a = true
            · rw [if_pos h3, ins, if_pos h1]
            · rw [if_neg h3, ins, if_pos h2]
          · rw [if_neg h2]
            have h3 : ¬ lt b a = true := fun k => h2 (O.tr _ _ _ h1 k)
            rw [if_neg h3]
            conv => rhs; rw [ins, if_neg h2]
            have := ih A (b :: B) (by simp; omega)
            rw [ins, if_pos h1] at this
            rw [this]
        · rw [ins, if_neg h1, mrg_cons, mrg_cons]
          by_cases h3 : lt b a = true
          · rw [if_pos h3, if_pos h3, ih (a :: A) B (by simp; omega)]
            conv => rhs; rw [ins, if_neg h1]
          · rw [if_neg h3, if_neg h3]
            have h2 : ¬ lt x a = true := fun k => (O.ne x b a k).elim h1 h3
            conv => rhs; rw [ins, if_neg h2]
            have := ih A (b :: B) (by simp; omega)
            rw [ins, if_neg h1] at this
            rw [this]

theorem isort_snoc (l : List Nd) (x : Nd) : isort lt (l ++ [x]) = ins lt x (isort lt l) := by simp [isort]
theorem isort_append (O : Ord lt) (l m : List Nd) : mrg lt (isort lt l) (isort lt m) = isort lt (l ++ m) := by
  have hrec : ∀ k : List Nd, mrg lt (isort lt l) (isort lt k.reverse) = isort lt (l ++ k.reverse) := by
    intro k
    induction k with
    | nil => simp [isort, mrg_nil']
    | cons x k ih => rw [List.reverse_cons, isort_snoc, mrg_ins O x _ _ _ (Nat.le_refl _), ih, ← List.append_assoc, isort_snoc]
  have := hrec m.reverse
  rwa [List.reverse_reverse] at this

theorem ins_length (x : Nd) : ∀ l : List Nd, (ins lt x l).length = l.length + 1
  | [] => rfl
  | y :: l => by
    rw [ins]
    split
    · rfl
    · simp [ins_length x l]
theorem isort_length (l : List Nd) : (isort lt l).length = l.length := by
  have hrec : ∀ k : List Nd, (isort lt k.reverse).length = k.length := by
    intro k
    induction k with
    | nil => rfl
    | cons x k ih => rw [List.reverse_cons, isort_snoc, ins_length, ih]; rfl
  have := hrec l.reverse
  rw [List.reverse_reverse, List.length_reverse] at this
  exact this
theorem mrg_length : ∀ (n : Nat) (A B : List Nd), A.length + B.length ≤ n → (mrg lt A B).length = A.length + B.length := by
  intro n
  induction n with
  | zero =>
    intro A B h
    have hA : A = [] := List.eq_nil_of_length_eq_zero (by omega)
    subst hA
    rw [mrg_nil]; simp
  | succ n ih =>
    intro A B h
    cases A with
    | nil => rw [mrg_nil]; simp
    | cons a A =>
      cases B with
      | nil => rw [mrg_nil']; simp
      | cons b B =>
        simp only [List.length_cons] at h
        rw [mrg_cons]
        split
        · rw [List.length_cons, ih _ _ (by simp; omega)]; simp; omega
        · rw [List.length_cons, ih _ _ (by simp; omega)]; simp; omega

/-- In order: none stands ahead of an earlier one. -/
def Srt (lt : Nd → Nd → Bool) (l : List Nd) : Prop := l.Pairwise fun x y => lt y x = false
theorem ins_mem (x : Nd) : ∀ (l : List Nd) (z : Nd), z ∈ ins lt x l ↔ z = x ∨ z ∈ l
  | [], z => by simp [ins]
  | y :: l, z => by
    rw [ins]
    split
    · simp
    · rw [List.mem_cons, ins_mem x l z, List.mem_cons]
      constructor
      · rintro (h | h | h) <;> simp [h]
      · rintro (h | h | h) <;> simp [h]
theorem ins_srt (O : Ord lt) (x : Nd) : ∀ l : List Nd, Srt lt l → Srt lt (ins lt x l)
  | [], _ => by simp [ins, Srt]
  | y :: l, h => by
    unfold Srt at *
    rw [List.pairwise_cons] at h
    rw [ins]
    by_cases h1 : lt x y = true
    · rw [if_pos h1, List.pairwise_cons, List.pairwise_cons]
      refine ⟨fun z hz => ?_, h⟩
      have hyx : lt y x = false := by
        cases k : lt y x with
        | false => rfl
        | true => have := O.tr _ _ _ h1 k; rw [O.irr] at this; cases this
      rw [List.mem_cons] at hz
      rcases hz with rfl | hz
      · exact hyx
      · cases k : lt z x with
        | false => rfl
        | true => have := O.tr _ _ _ k h1; rw [h.1 z hz] at this; cases this
    · rw [if_neg h1, List.pairwise_cons]
      refine ⟨fun z hz => ?_, ins_srt O x l h.2⟩
      rcases (ins_mem x l z).1 hz with rfl | hz
      · simpa using h1
      · exact h.1 z hz
theorem isort_srt (O : Ord lt) (l : List Nd) : Srt lt (isort lt l) := by
  have hrec : ∀ k : List Nd, Srt lt (isort lt k.reverse) := by
    intro k
    induction k with
    | nil => simp [isort, Srt]
    | cons x k ih => rw [List.reverse_cons, isort_snoc]; exact ins_srt O x _ ih
  have := hrec l.reverse
  rwa [List.reverse_reverse] at this
theorem isort_mem (l : List Nd) (z : Nd) : z ∈ isort lt l ↔ z ∈ l := by
  have hrec : ∀ k : List Nd, z ∈ isort lt k.reverse ↔ z ∈ k := by
    intro k
    induction k with
    | nil => simp [isort]
    | cons x k ih => rw [List.reverse_cons, isort_snoc, ins_mem, ih, List.mem_cons]
  have := hrec l.reverse
  rw [List.reverse_reverse, List.mem_reverse] at this
  exact this

/-- Where one more is put, seen from the end. -/
theorem ins_at (O : Ord lt) (x : Nd) : ∀ (l : List Nd) (k : Nat), Srt lt l → k ≤ l.length → (∀ j, k ≤ j → ∀ h : j < l.length, lt x l[j] = true) → (∀ h : k - 1 < l.length, 0 < k → lt x l[k - 1] = false) →
    l.take k ++ x :: l.drop k = ins lt x l
  | [], k, _, hk, _, _ => by
    have : k = 0 := by simpa using hk
    subst this
    simp [ins]
  | y :: l, 0, _, _, h1, _ => by
    have := h1 0 (Nat.le_refl _) (by simp)
    simp at this
    simp [ins, this]
  | y :: l, k + 1, hs, hk, h1, h2 => by
    have hs' := hs
    unfold Srt at hs
    rw [List.pairwise_cons] at hs
    have hy : lt x y = false := by
      have h3 := h2 (by simp at hk ⊢; omega) (by omega)
      cases k with
      | zero => simpa using h3
      | succ k =>
        simp only [Nat.add_sub_cancel] at h3
        have hl : k < l.length := by simp at hk; omega
        rw [List.getElem_cons_succ] at h3
        cases e : lt x y with
        | false => rfl
        | true =>
          have hle := hs.1 l[k] (List.getElem_mem hl)
          rcases O.ne x l[k] y e with h | h
          · rw [h3] at h; cases h
          · rw [hle] at h; cases h
    rw [ins, if_neg (by rw [hy]; simp), List.take_succ_cons, List.drop_succ_cons, List.cons_append]
    rw [ins_at O x l k hs.2 (by simpa using hk) (fun j hj hl => by have := h1 (j + 1) (by omega) (by simp; omega); simpa using this) (fun hl h0 => by
      have := h2 (by simp; omega) (by omega)
      obtain ⟨m, rfl⟩ : ∃ m, k = m + 1 := ⟨k - 1, by omega⟩
      simpa using this)]
end

/-- By rising numbers. -/
def ltS (a b : Nd) : Bool := decide (a.1 < b.1)
theorem ordS : Ord ltS := ⟨fun x y z h k => by simp [ltS] at *; omega, fun x y z h => by simp [ltS] at *; omega, fun x => by simp [ltS]⟩
/-- By the last values that nodes hold; of the same, the greater number ahead. -/
def endF (L id : Int) : Int := (endsF L id).2.1
def ltP (L : Int) (a b : Nd) : Bool := decide (endF L a.1 < endF L b.1 ∨ (endF L a.1 = endF L b.1 ∧ b.1 < a.1))
theorem ordP (L : Int) : Ord (ltP L) := ⟨fun x y z h k => by simp [ltP] at *; omega, fun x y z h => by simp [ltP] at *; omega, fun x => by simp [ltP]⟩

/-- The last one's number. -/
def lastId : List Nd → Option Int
  | [] => none
  | [p] => some p.1
  | _ :: l => lastId l
/-- The last one's weight more. -/
def bump (n : Int) : List Nd → List Nd
  | [] => []
  | [p] => [(p.1, wrap64 (p.2 + n))]
  | p :: l => p :: bump n l
/-- Each number once: what is out, what is to come. -/
def foldGo (out : List Nd) : List Nd → List Nd × Bool
  | [] => (out, true)
  | p :: r => if p.1 < 1 then ([], false) else if p.2 = 0 then foldGo out r else if lastId out = some p.1 then foldGo (bump p.2 out) r else foldGo (out ++ [p]) r
def foldF (l : List Nd) : List Nd × Bool := if (totF l).2 = true then foldGo [] (isort ltS l) else ([], false)
def joinF (a b : List Nd) : List Nd × Bool := foldF (a ++ b)
def postF (L : Int) (r : List Nd) : List Nd × Bool := if rollB L r = true then (isort (ltP L) r, true) else ([], false)
end RollM
end Go.Proofs.Ytbfecpomlkapdaa

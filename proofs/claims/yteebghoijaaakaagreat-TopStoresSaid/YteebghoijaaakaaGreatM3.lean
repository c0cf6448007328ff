/- Part 3 of the proof: texts joined by this repo's tools/merge2.py (RollM BagM Own BagN BagBL). By the prover of this repo. -/
import Derived.Test.YteebghoijaaakaaGreatM1
import Derived.WalkKit
import Derived.Maps.AppendAt
import Derived.Laws.OwnMore
import Derived.Laws.IdiomStrings
set_option linter.unusedVariables false
set_option linter.unusedSimpArgs false
/- Plain facts on lists of nodes with weights: their sum, their order, each number once. No program in sight. By the prover of this repo. -/
namespace Go.Proofs.YteebghoijaaakaaGreat
namespace RollM
open TwigM Go.RowKit

abbrev Nd := Int × Int

/-- The weight of all, from n on. -/
def totGo (n : Int) : List Nd → Int × Bool
  | [] => (n, true)
  | p :: l => if p.2 < 0 ∨ 72057594037927935 - n < p.2 then (0, false) else totGo (n + p.2) l
def totF (l : List Nd) : Int × Bool := totGo 0 l
/-- Are all nodes, rising, of some weight? -/
def rightGo (L last : Int) : List Nd → Bool
  | [] => true
  | p :: r => if p.1 ≤ last ∨ rightB L p.1 = false ∨ p.2 < 1 then false else rightGo L p.1 r
def uniB (L : Int) : Bool := decide (1 ≤ L ∧ L ≤ 48)
def rollB (L : Int) (r : List Nd) : Bool := rightGo L 0 r && ((totF r).2 && uniB L)
/-- A node's weight. -/
def findF (id : Int) : List Nd → Int
  | [] => 0
  | p :: r => if p.1 = id then p.2 else findF id r

section
variable (lt : Nd → Nd → Bool)
/-- One more, behind all that it isn't ahead of. -/
def ins (x : Nd) : List Nd → List Nd
  | [] => [x]
  | y :: l => if lt x y = true then x :: y :: l else y :: ins x l
def isort (l : List Nd) : List Nd := l.foldl (fun acc x => ins lt x acc) []
/-- Two as one: of the first as long as none of the second stands ahead. -/
def mrg : List Nd → List Nd → List Nd
  | [], b => b
  | a :: A, [] => a :: A
  | a :: A, b :: B => if lt b a = true then b :: mrg (a :: A) B else a :: mrg A (b :: B)
termination_by a b => a.length + b.length
end
section
variable {lt : Nd → Nd → Bool}
/-- A strict order in which what is not apart is alike. -/
structure Ord (lt : Nd → Nd → Bool) : Prop where
  tr : ∀ x y z, lt x y = true → lt y z = true → lt x z = true
  ne : ∀ x y z, lt x z = true → lt x y = true ∨ lt y z = true
  irr : ∀ x, lt x x = false

theorem mrg_nil (b : List Nd) : mrg lt [] b = b := by rw [mrg]
theorem mrg_nil' (a : List Nd) : mrg lt a [] = a := by cases a <;> rw [mrg]
theorem mrg_cons (a b : Nd) (A B : List Nd) : mrg lt (a :: A) (b :: B) = if lt b a = true then b :: mrg lt (a :: A) B else a :: mrg lt A (b :: B) := by rw [mrg]

theorem mrg_ins (O : Ord lt) (x : Nd) : ∀ (n : Nat) (A B : List Nd), A.length + B.length ≤ n → mrg lt A (ins lt x B) = ins lt x (mrg lt A B) := by
  intro n
  induction n with
  | zero =>
    intro A B h
    have hA : A = [] := List.eq_nil_of_length_eq_zero (by omega)
    subst hA
    rw [mrg_nil, mrg_nil]
  | succ n ih =>
    intro A B h
    cases A with
    | nil => rw [mrg_nil, mrg_nil]
    | cons a A =>
      cases B with
      | nil =>
        rw [mrg_nil', ins, ins, mrg_cons]
        by_cases h1 : lt x a = true
        · rw [if_pos h1, if_pos h1, mrg_nil']
        · rw [if_neg h1, if_neg h1]
          have := ih A [] (by simp at h ⊢; omega)
          rw [ins, mrg_nil'] at this
          rw [this]
      | cons b B =>
        simp only [List.length_cons] at h
        by_cases h1 : lt x b = true
        · rw [ins, if_pos h1, mrg_cons, mrg_cons]
          by_cases h2 : lt x a = true
          · rw [if_pos h2]
            by_cases h3 : lt b a = true
            · rw [if_pos h3, ins, if_pos h1]
            · rw [if_neg h3, ins, if_pos h2]
          · rw [if_neg h2]
            have h3 : ¬ lt b a = true := fun k => h2 (O.tr _ _ _ h1 k)
            rw [if_neg h3]
            conv => rhs; rw [ins, if_neg h2]
            have := ih A (b :: B) (by simp; omega)
            rw [ins, if_pos h1] at this
            rw [this]
        · rw [ins, if_neg h1, mrg_cons, mrg_cons]
          by_cases h3 : lt b a = true
          · rw [if_pos h3, if_pos h3, ih (a :: A) B (by simp; omega)]
            conv => rhs; rw [ins, if_neg h1]
          · rw [if_neg h3, if_neg h3]
            have h2 : ¬ lt x a = true := fun k => (O.ne x b a k).elim h1 h3
            conv => rhs; rw [ins, if_neg h2]
            have := ih A (b :: B) (by simp; omega)
            rw [ins, if_neg h1] at this
            rw [this]

theorem isort_snoc (l : List Nd) (x : Nd) : isort lt (l ++ [x]) = ins lt x (isort lt l) := by simp [isort]
theorem isort_append (O : Ord lt) (l m : List Nd) : mrg lt (isort lt l) (isort lt m) = isort lt (l ++ m) := by
  have hrec : ∀ k : List Nd, mrg lt (isort lt l) (isort lt k.reverse) = isort lt (l ++ k.reverse) := by
    intro k
    induction k with
    | nil => simp [isort, mrg_nil']
    | cons x k ih => rw [List.reverse_cons, isort_snoc, mrg_ins O x _ _ _ (Nat.le_refl _), ih, ← List.append_assoc, isort_snoc]
  have := hrec m.reverse
  rwa [List.reverse_reverse] at this

theorem ins_length (x : Nd) : ∀ l : List Nd, (ins lt x l).length = l.length + 1
  | [] => rfl
  | y :: l => by
    rw [ins]
    split
    · rfl
    · simp [ins_length x l]
theorem isort_length (l : List Nd) : (isort lt l).length = l.length := by
  have hrec : ∀ k : List Nd, (isort lt k.reverse).length = k.length := by
    intro k
    induction k with
    | nil => rfl
    | cons x k ih => rw [List.reverse_cons, isort_snoc, ins_length, ih]; rfl
  have := hrec l.reverse
  rw [List.reverse_reverse, List.length_reverse] at this
  exact this
theorem mrg_length : ∀ (n : Nat) (A B : List Nd), A.length + B.length ≤ n → (mrg lt A B).length = A.length + B.length := by
  intro n
  induction n with
  | zero =>
    intro A B h
    have hA : A = [] := List.eq_nil_of_length_eq_zero (by omega)
    subst hA
    rw [mrg_nil]; simp
  | succ n ih =>
    intro A B h
    cases A with
    | nil => rw [mrg_nil]; simp
    | cons a A =>
      cases B with
      | nil => rw [mrg_nil']; simp
      | cons b B =>
        simp only [List.length_cons] at h
        rw [mrg_cons]
        split
        · rw [List.length_cons, ih _ _ (by simp; omega)]; simp; omega
        · rw [List.length_cons, ih _ _ (by simp; omega)]; simp; omega

/-- In order: none stands ahead of an earlier one. -/
def Srt (lt : Nd → Nd → Bool) (l : List Nd) : Prop := l.Pairwise fun x y => lt y x = false
theorem ins_mem (x : Nd) : ∀ (l : List Nd) (z : Nd), z ∈ ins lt x l ↔ z = x ∨ z ∈ l
  | [], z => by simp [ins]
  | y :: l, z => by
    rw [ins]
    split
    · simp
    · rw [List.mem_cons, ins_mem x l z, List.mem_cons]
      constructor
      · rintro (h | h | h) <;> simp [h]
      · rintro (h | h | h) <;> simp [h]
theorem ins_srt (O : Ord lt) (x : Nd) : ∀ l : List Nd, Srt lt l → Srt lt (ins lt x l)
  | [], _ => by simp [ins, Srt]
  | y :: l, h => by
    unfold Srt at *
    rw [List.pairwise_cons] at h
    rw [ins]
    by_cases h1 : lt x y = true
    · rw [if_pos h1, List.pairwise_cons, List.pairwise_cons]
      refine ⟨fun z hz => ?_, h⟩
      have hyx : lt y x = false := by
        cases k : lt y x with
        | false => rfl
        | true => have := O.tr _ _ _ h1 k; rw [O.irr] at this; cases this
      rw [List.mem_cons] at hz
      rcases hz with rfl | hz
      · exact hyx
      · cases k : lt z x with
        | false => rfl
        | true => have := O.tr _ _ _ k h1; rw [h.1 z hz] at this; cases this
    · rw [if_neg h1, List.pairwise_cons]
      refine ⟨fun z hz => ?_, ins_srt O x l h.2⟩
      rcases (ins_mem x l z).1 hz with rfl | hz
      · simpa using h1
      · exact h.1 z hz
theorem isort_srt (O : Ord lt) (l : List Nd) : Srt lt (isort lt l) := by
  have hrec : ∀ k : List Nd, Srt lt (isort lt k.reverse) := by
    intro k
    induction k with
    | nil => simp [isort, Srt]
    | cons x k ih => rw [List.reverse_cons, isort_snoc]; exact ins_srt O x _ ih
  have := hrec l.reverse
  rwa [List.reverse_reverse] at this
theorem isort_mem (l : List Nd) (z : Nd) : z ∈ isort lt l ↔ z ∈ l := by
  have hrec : ∀ k : List Nd, z ∈ isort lt k.reverse ↔ z ∈ k := by
    intro k
    induction k with
    | nil => simp [isort]
    | cons x k ih => rw [List.reverse_cons, isort_snoc, ins_mem, ih, List.mem_cons]
  have := hrec l.reverse
  rw [List.reverse_reverse, List.mem_reverse] at this
  exact this

/-- Where one more is put, seen from the end. -/
theorem ins_at (O : Ord lt) (x : Nd) : ∀ (l : List Nd) (k : Nat), Srt lt l → k ≤ l.length → (∀ j, k ≤ j → ∀ h : j < l.length, lt x l[j] = true) → (∀ h : k - 1 < l.length, 0 < k → lt x l[k - 1] = false) →
    l.take k ++ x :: l.drop k = ins lt x l
  | [], k, _, hk, _, _ => by
    have : k = 0 := by simpa using hk
    subst this
    simp [ins]
  | y :: l, 0, _, _, h1, _ => by
    have := h1 0 (Nat.le_refl _) (by simp)
    simp at this
    simp [ins, this]
  | y :: l, k + 1, hs, hk, h1, h2 => by
    have hs' := hs
    unfold Srt at hs
    rw [List.pairwise_cons] at hs
    have hy : lt x y = false := by
      have h3 := h2 (by simp at hk ⊢; omega) (by omega)
      cases k with
      | zero => simpa using h3
      | succ k =>
        simp only [Nat.add_sub_cancel] at h3
        have hl : k < l.length := by simp at hk; omega
        rw [List.getElem_cons_succ] at h3
        cases e : lt x y with
        | false => rfl
        | true =>
          have hle := hs.1 l[k] (List.getElem_mem hl)
          rcases O.ne x l[k] y e with h | h
          · rw [h3] at h; cases h
          · rw [hle] at h; cases h
    rw [ins, if_neg (by rw [hy]; simp), List.take_succ_cons, List.drop_succ_cons, List.cons_append]
    rw [ins_at O x l k hs.2 (by simpa using hk) (fun j hj hl => by have := h1 (j + 1) (by omega) (by simp; omega); simpa using this) (fun hl h0 => by
      have := h2 (by simp; omega) (by omega)
      obtain ⟨m, rfl⟩ : ∃ m, k = m + 1 := ⟨k - 1, by omega⟩
      simpa using this)]
end

/-- By rising numbers. -/
def ltS (a b : Nd) : Bool := decide (a.1 < b.1)
theorem ordS : Ord ltS := ⟨fun x y z h k => by simp [ltS] at *; omega, fun x y z h => by simp [ltS] at *; omega, fun x => by simp [ltS]⟩
/-- By the last values that nodes hold; of the same, the greater number ahead. -/
def endF (L id : Int) : Int := (endsF L id).2.1
def ltP (L : Int) (a b : Nd) : Bool := decide (endF L a.1 < endF L b.1 ∨ (endF L a.1 = endF L b.1 ∧ b.1 < a.1))
theorem ordP (L : Int) : Ord (ltP L) := ⟨fun x y z h k => by simp [ltP] at *; omega, fun x y z h => by simp [ltP] at *; omega, fun x => by simp [ltP]⟩

/-- The last one's number. -/
def lastId : List Nd → Option Int
  | [] => none
  | [p] => some p.1
  | _ :: l => lastId l
/-- The last one's weight more. -/
def bump (n : Int) : List Nd → List Nd
  | [] => []
  | [p] => [(p.1, wrap64 (p.2 + n))]
  | p :: l => p :: bump n l
/-- Each number once: what is out, what is to come. -/
def foldGo (out : List Nd) : List Nd → List Nd × Bool
  | [] => (out, true)
  | p :: r => if p.1 < 1 then ([], false) else if p.2 = 0 then foldGo out r else if lastId out = some p.1 then foldGo (bump p.2 out) r else foldGo (out ++ [p]) r
def foldF (l : List Nd) : List Nd × Bool := if (totF l).2 = true then foldGo [] (isort ltS l) else ([], false)
def joinF (a b : List Nd) : List Nd × Bool := foldF (a ++ b)
def postF (L : Int) (r : List Nd) : List Nd × Bool := if rollB L r = true then (isort (ltP L) r, true) else ([], false)
end RollM
end Go.Proofs.YteebghoijaaakaaGreat
/- Plain facts on bags: readings by rising values, each with its weight. No program in sight. By the prover of this repo. -/
namespace Go.Proofs.YteebghoijaaakaaGreat
namespace BagM
open TwigM Go.RowKit

abbrev Rg := Int × Int

/-- What all weigh. -/
def tot : List Rg → Int
  | [] => 0
  | p :: l => p.2 + tot l
/-- A value's weight more. -/
def put (x n : Int) : List Rg → List Rg
  | [] => [(x, n)]
  | p :: l => if p.1 = x then (x, p.2 + n) :: l else if x < p.1 then (x, n) :: p :: l else p :: put x n l
/-- Rising values, each of some weight, not too much in all. -/
structure Ok (l : List Rg) : Prop where
  rise : l.Pairwise fun p q => p.1 < q.1
  pos : ∀ p ∈ l, 1 ≤ p.2
  most : tot l ≤ 72057594037927935
/-- All are values of a universe. -/
def In (L : Int) (l : List Rg) : Prop := ∀ p ∈ l, 0 ≤ p.1 ∧ p.1 < pw L

theorem tot_nonneg : ∀ l : List Rg, (∀ p ∈ l, 1 ≤ p.2) → 0 ≤ tot l
  | [], _ => by simp [tot]
  | p :: l, h => by
    have h1 := h p (by simp)
    have h2 := tot_nonneg l fun x hx => h x (by simp [hx])
    rw [tot]; omega
theorem tot_append : ∀ a b : List Rg, tot (a ++ b) = tot a + tot b
  | [], b => by simp [tot]
  | p :: a, b => by rw [List.cons_append, tot, tot, tot_append a b]; omega
theorem tot_put (x n : Int) : ∀ l : List Rg, tot (put x n l) = tot l + n
  | [] => by simp [put, tot]
  | p :: l => by
    rw [put]
    split
    · simp only [tot]; omega
    · split
      · simp only [tot]; omega
      · rw [tot, tot_put x n l]; simp only [tot]; omega
theorem put_mem (x n : Int) : ∀ (l : List Rg) (q : Rg), q ∈ put x n l → q.1 = x ∨ q ∈ l
  | [], q, h => by simp [put] at h; subst h; exact .inl rfl
  | p :: l, q, h => by
    rw [put] at h
    split at h
    · rcases List.mem_cons.1 h with rfl | h
      · exact .inl rfl
      · exact .inr (by simp [h])
    · split at h
      · rcases List.mem_cons.1 h with rfl | h
        · exact .inl rfl
        · exact .inr h
      · rcases List.mem_cons.1 h with rfl | h
        · exact .inr (by simp)
        · rcases put_mem x n l q h with h | h
          · exact .inl h
          · exact .inr (by simp [h])
theorem put_pos (x n : Int) (hn : 1 ≤ n) : ∀ l : List Rg, (∀ p ∈ l, 1 ≤ p.2) → ∀ q ∈ put x n l, 1 ≤ q.2
  | [], _, q, h => by simp [put] at h; subst h; exact hn
  | p :: l, hl, q, h => by
    have hp := hl p (by simp)
    have hl' : ∀ p ∈ l, 1 ≤ p.2 := fun y hy => hl y (by simp [hy])
    rw [put] at h
    split at h
    · rcases List.mem_cons.1 h with rfl | h
      · show 1 ≤ p.2 + n; omega
      · exact hl' q h
    · split at h
      · rcases List.mem_cons.1 h with rfl | h
        · exact hn
        · exact hl q h
      · rcases List.mem_cons.1 h with rfl | h
        · exact hp
        · exact put_pos x n hn l hl' q h
theorem put_rise (x n : Int) : ∀ l : List Rg, (l.Pairwise fun p q => p.1 < q.1) → (put x n l).Pairwise fun p q => p.1 < q.1
  | [], _ => by simp [put]
  | p :: l, h => by
    have h' := List.pairwise_cons.1 h
    rw [put]
    split
    · rename_i e
      exact List.pairwise_cons.2 ⟨fun q hq => by have := h'.1 q hq; show x < q.1; omega, h'.2⟩
    · split
      · rename_i e1 e2
        refine List.pairwise_cons.2 ⟨fun q hq => ?_, h⟩
        rcases List.mem_cons.1 hq with rfl | hq
        · exact e2
        · have := h'.1 q hq; show x < q.1; omega
      · rename_i e1 e2
        refine List.pairwise_cons.2 ⟨fun q hq => ?_, put_rise x n l h'.2⟩
        rcases put_mem x n l q hq with h3 | h3
        · omega
        · exact h'.1 q h3
theorem Ok.put {l : List Rg} (h : Ok l) (x n : Int) (hn : 1 ≤ n) (hm : n ≤ 72057594037927935 - tot l) : Ok (put x n l) :=
  ⟨put_rise x n l h.rise, put_pos x n hn l h.pos, by rw [tot_put]; omega⟩
theorem Ok.nil : Ok [] := ⟨List.Pairwise.nil, (fun p hp => by cases hp), by simp [tot]⟩
theorem In.nil (L : Int) : In L [] := fun p hp => by cases hp
theorem In.put {L : Int} {l : List Rg} (h : In L l) (x n : Int) (h0 : 0 ≤ x) (h1 : x < pw L) : In L (put x n l) := fun q hq => by
  rcases put_mem x n l q hq with e | e
  · rw [e]; exact ⟨h0, h1⟩
  · exact h q e
theorem put_len (x n : Int) : ∀ l : List Rg, (put x n l).length ≤ l.length + 1
  | [] => by simp [put]
  | p :: l => by
    rw [put]
    split
    · simp
    · split
      · simp
      · have := put_len x n l; simp; omega
theorem len_put (x n : Int) : ∀ l : List Rg, l.length ≤ (put x n l).length
  | [] => by simp [put]
  | p :: l => by
    rw [put]
    split
    · simp
    · split
      · simp
      · have := len_put x n l; simp; omega
theorem tot_le (l : List Rg) (h : ∀ p ∈ l, 1 ≤ p.2) (p : Rg) (hp : p ∈ l) : p.2 ≤ tot l := by
  induction l with
  | nil => cases hp
  | cons q l ih =>
    have h2 : ∀ p ∈ l, 1 ≤ p.2 := fun x hx => h x (by simp [hx])
    have h1 := h q (by simp)
    have h3 := tot_nonneg l h2
    rw [tot]
    rcases List.mem_cons.1 hp with rfl | hp
    · omega
    · have := ih h2 hp; omega

/-- How many values are less than one; how many are at most one. -/
def lo (x : Int) : List Rg → Nat
  | [] => 0
  | p :: l => if x ≤ p.1 then 0 else lo x l + 1
def hi (x : Int) : List Rg → Nat
  | [] => 0
  | p :: l => if x < p.1 then 0 else hi x l + 1
theorem lo_le (x : Int) : ∀ l : List Rg, lo x l ≤ l.length
  | [] => by simp [lo]
  | p :: l => by have := lo_le x l; rw [lo]; split <;> simp <;> omega
theorem hi_le (x : Int) : ∀ l : List Rg, hi x l ≤ l.length
  | [] => by simp [hi]
  | p :: l => by have := hi_le x l; rw [hi]; split <;> simp <;> omega
/-- What is found by halves: the least place at which it holds. -/
theorem lo_spec (x : Int) : ∀ (l : List Rg), (l.Pairwise fun p q => p.1 < q.1) → ∀ i, (h : i < l.length) → (decide (x ≤ l[i].1) = true ↔ lo x l ≤ i)
  | [], _, i, h => by simp at h
  | p :: l, hs, i, h => by
    have h' := List.pairwise_cons.1 hs
    rw [lo, decide_eq_true_eq]
    cases i with
    | zero =>
      rw [List.getElem_cons_zero]
      split <;> omega
    | succ i =>
      have hil : i < l.length := by simpa using h
      rw [List.getElem_cons_succ]
      have h1 := h'.1 l[i] (List.getElem_mem hil)
      have h2 := lo_spec x l h'.2 i hil
      rw [decide_eq_true_eq] at h2
      split
      · omega
      · rw [h2]; omega
theorem hi_spec (x : Int) : ∀ (l : List Rg), (l.Pairwise fun p q => p.1 < q.1) → ∀ i, (h : i < l.length) → (decide (x < l[i].1) = true ↔ hi x l ≤ i)
  | [], _, i, h => by simp at h
  | p :: l, hs, i, h => by
    have h' := List.pairwise_cons.1 hs
    rw [hi, decide_eq_true_eq]
    cases i with
    | zero =>
      rw [List.getElem_cons_zero]
      split <;> omega
    | succ i =>
      have hil : i < l.length := by simpa using h
      rw [List.getElem_cons_succ]
      have h1 := h'.1 l[i] (List.getElem_mem hil)
      have h2 := hi_spec x l h'.2 i hil
      rw [decide_eq_true_eq] at h2
      split
      · omega
      · rw [h2]; omega

/-- Putting, as a place and what is there. -/
theorem put_same (x n : Int) : ∀ (l : List Rg), (h : lo x l < l.length) → l[lo x l].1 = x → put x n l = l.set (lo x l) (x, l[lo x l].2 + n)
  | [], h, _ => by simp at h
  | p :: l, h, e => by
    rw [put]
    by_cases h1 : p.1 = x
    · have h0 : lo x (p :: l) = 0 := by rw [lo, if_pos (by omega)]
      rw [if_pos h1]
      simp [h0]
    · have hx : ¬ x ≤ p.1 := fun k => by
        have h0 : lo x (p :: l) = 0 := by rw [lo, if_pos k]
        simp [h0] at e
        exact h1 e
      have h0 : lo x (p :: l) = lo x l + 1 := by rw [lo, if_neg hx]
      rw [if_neg h1, if_neg (by omega)]
      simp only [h0] at h e ⊢
      rw [List.getElem_cons_succ] at e
      rw [put_same x n l (by simpa using h) e]
      simp
theorem put_new (x n : Int) : ∀ (l : List Rg), (∀ h : lo x l < l.length, l[lo x l].1 ≠ x) → put x n l = l.take (lo x l) ++ (x, n) :: l.drop (lo x l)
  | [], _ => by simp [put, lo]
  | p :: l, e => by
    rw [put]
    by_cases hx : x ≤ p.1
    · have h0 : lo x (p :: l) = 0 := by rw [lo, if_pos hx]
      have h1 : p.1 ≠ x := by
        have := e (by rw [h0]; simp)
        simpa [h0] using this
      rw [if_neg h1, if_pos (by omega), h0]
      simp
    · have h0 : lo x (p :: l) = lo x l + 1 := by rw [lo, if_neg hx]
      rw [if_neg (by omega), if_neg (by omega)]
      rw [put_new x n l fun h => by
        have := e (by rw [h0]; simpa using h)
        simpa [h0] using this]
      simp [h0]

/-- Adding, as the document says. -/
def addF (L : Int) (l : List Rg) (x n : Int) : List Rg × Int :=
  if x < 0 ∨ pw L ≤ x then (l, 3) else if n < 1 then (l, 4) else if 72057594037927935 - tot l < n then (l, 5) else (put x n l, 0)
theorem add_ok {L : Int} {l : List Rg} (h : Ok l) (hi : In L l) (x n : Int) : Ok (addF L l x n).1 ∧ In L (addF L l x n).1 := by
  unfold addF
  split
  · exact ⟨h, hi⟩
  · split
    · exact ⟨h, hi⟩
    · split
      · exact ⟨h, hi⟩
      · exact ⟨h.put x n (by omega) (by omega), hi.put x n (by omega) (by omega)⟩
theorem add_len (L : Int) (l : List Rg) (x n : Int) : (addF L l x n).1.length ≤ l.length + 1 := by
  unfold addF
  split
  · simp
  · split
    · simp
    · split
      · simp
      · exact put_len x n l
/-- All that may be added, one behind the other. -/
def addAll (L : Int) (l : List Rg) : List Rg → List Rg
  | [] => l
  | p :: r => addAll L (addF L l p.1 p.2).1 r
def ofF (L : Int) (r : List Rg) : List Rg := addAll L [] r
theorem addAll_ok {L : Int} : ∀ (r l : List Rg), Ok l → In L l → Ok (addAll L l r) ∧ In L (addAll L l r)
  | [], _, h, hi => ⟨h, hi⟩
  | p :: r, l, h, hi => by
    have := add_ok h hi p.1 p.2
    exact addAll_ok r _ this.1 this.2
theorem addAll_len {L : Int} : ∀ (r l : List Rg), (addAll L l r).length ≤ l.length + r.length
  | [], l => by simp [addAll]
  | p :: r, l => by
    have h1 := addAll_len (L := L) r (addF L l p.1 p.2).1
    have h2 := add_len L l p.1 p.2
    rw [addAll]; simp; omega
theorem of_ok (L : Int) (r : List Rg) : Ok (ofF L r) ∧ In L (ofF L r) := addAll_ok r [] Ok.nil (In.nil L)
theorem of_len (L : Int) (r : List Rg) : (ofF L r).length ≤ r.length := by have := addAll_len (L := L) r []; simpa [ofF] using this

/-- What values from x to y weigh. -/
def bet (x y : Int) : List Rg → Int
  | [] => 0
  | p :: l => (if x ≤ p.1 ∧ p.1 ≤ y then p.2 else 0) + bet x y l
/-- What those from a place on, up to another one, weigh. -/
def seg (l : List Rg) (a b : Nat) : Int := tot ((l.take b).drop a)
theorem bet_zero (x y : Int) : ∀ l : List Rg, (∀ p ∈ l, ¬ (x ≤ p.1 ∧ p.1 ≤ y)) → bet x y l = 0
  | [], _ => rfl
  | p :: l, h => by rw [bet, if_neg (h p (by simp)), bet_zero x y l fun q hq => h q (by simp [hq])]; rfl
theorem bet_seg (x y : Int) : ∀ l : List Rg, (l.Pairwise fun p q => p.1 < q.1) → bet x y l = seg l (lo x l) (hi y l)
  | [], _ => rfl
  | p :: l, hs => by
    have h' := List.pairwise_cons.1 hs
    have ih := bet_seg x y l h'.2
    unfold seg at ih ⊢
    rw [bet, lo, hi]
    by_cases hy : y < p.1
    · rw [if_neg (by omega), if_pos hy, bet_zero x y l fun q hq => by have := h'.1 q hq; omega]
      simp [tot]
    · rw [if_neg hy]
      by_cases hx : x ≤ p.1
      · rw [if_pos ⟨hx, by omega⟩, if_pos hx]
        have h0 : lo x l = 0 := by
          cases l with
          | nil => rfl
          | cons q l => have := h'.1 q (by simp); rw [lo, if_pos (by omega)]
        rw [ih, h0]
        simp [tot]
      · rw [if_neg (by omega), if_neg hx, ih]
        simp
theorem bet_nonneg (x y : Int) : ∀ l : List Rg, (∀ p ∈ l, 1 ≤ p.2) → 0 ≤ bet x y l
  | [], _ => by simp [bet]
  | p :: l, h => by
    have h1 := h p (by simp)
    have h2 := bet_nonneg x y l fun q hq => h q (by simp [hq])
    rw [bet]; split <;> omega
theorem bet_le (x y : Int) : ∀ l : List Rg, (∀ p ∈ l, 1 ≤ p.2) → bet x y l ≤ tot l
  | [], _ => by simp [bet, tot]
  | p :: l, h => by
    have h1 := h p (by simp)
    have h2 := bet_le x y l fun q hq => h q (by simp [hq])
    rw [bet, tot]; split <;> omega
/-- The rank of a number: what all values up to it weigh. -/
def rank (x : Int) (l : List Rg) : Int := bet 0 x l
theorem rank_seg (x : Int) {L : Int} (l : List Rg) (hs : l.Pairwise fun p q => p.1 < q.1) (hi0 : In L l) : seg l 0 (hi x l) = rank x l := by
  unfold rank
  rw [bet_seg 0 x l hs]
  congr 1
  cases l with
  | nil => rfl
  | cons p l => have := (hi0 p (by simp)).1; rw [lo, if_pos this]

/-- The value of a rank. -/
def kthGo (r : Int) : List Rg → Int
  | [] => 0
  | p :: l => if r ≤ p.2 then p.1 else kthGo (r - p.2) l
def kthF (l : List Rg) (r : Int) : Int × Int := if l = [] then (0, 7) else if r < 1 ∨ tot l < r then (0, 2) else (kthGo r l, 0)

/-- One bag to which another one comes. -/
def putAll (l : List Rg) : List Rg → List Rg
  | [] => l
  | p :: r => putAll (put p.1 p.2 l) r
theorem tot_putAll : ∀ (r l : List Rg), tot (putAll l r) = tot l + tot r
  | [], l => by simp [putAll, tot]
  | p :: r, l => by rw [putAll, tot_putAll r, tot_put, tot]; omega
theorem putAll_ok : ∀ (r l : List Rg), Ok l → (∀ p ∈ r, 1 ≤ p.2) → tot l + tot r ≤ 72057594037927935 → Ok (putAll l r)
  | [], _, h, _, _ => h
  | p :: r, l, h, hp, hm => by
    have h1 := hp p (by simp)
    have h2 := tot_nonneg r fun q hq => hp q (by simp [hq])
    rw [tot] at hm
    exact putAll_ok r _ (h.put p.1 p.2 h1 (by omega)) (fun q hq => hp q (by simp [hq])) (by rw [tot_put]; omega)
theorem putAll_in {L : Int} : ∀ (r l : List Rg), In L l → In L r → In L (putAll l r)
  | [], _, h, _ => h
  | p :: r, l, h, hr => by
    have := hr p (by simp)
    exact putAll_in r _ (h.put p.1 p.2 this.1 this.2) fun q hq => hr q (by simp [hq])
theorem putAll_len : ∀ (r l : List Rg), (putAll l r).length ≤ l.length + r.length
  | [], l => by simp [putAll]
  | p :: r, l => by
    have h1 := putAll_len r (put p.1 p.2 l)
    have h2 := put_len p.1 p.2 l
    rw [putAll]; simp; omega
def pourF (L M : Int) (l r : List Rg) : List Rg × Int := if ¬ L = M then (l, 6) else if 72057594037927935 - tot l < tot r then (l, 5) else (putAll l r, 0)
/-- All values without their last bits. -/
def cut (k : Int) (r : List Rg) : List Rg := r.map fun p => (p.1 / pw k, p.2)
theorem tot_cut (k : Int) : ∀ r : List Rg, tot (cut k r) = tot r
  | [] => rfl
  | p :: r => by have := tot_cut k r; unfold cut at this ⊢; rw [List.map_cons, tot, tot, this]
def imageF (k : Int) (r : List Rg) : List Rg := putAll [] (cut k r)
end BagM
end Go.Proofs.YteebghoijaaakaaGreat
/- Words for a slice that the call itself makes: what it holds, an append of one element or of another slice, its text. By the prover of this repo. -/
namespace Go.Proofs.YteebghoijaaakaaGreat
open Go.RowKit

/-- What the program's tables say of a slice type and its elements: of so many cells and bytes each. -/
structure Elem (P : Program) (t e : TypeId) (z : Value) (size bytes : Nat) : Prop where
  slice : P.underlying t = some (.slice e)
  info : (P.info? e).map (fun i => (i.zero, i.size, i.bytes)) = some (some z, size, bytes)
  cells : z.cells.size = size
  pos : 0 < size ∧ 0 < bytes

theorem one1 {u : Value} (h : u.oneCell' = true) : ∀ x ∈ [u], x.oneCell' = true := by intro x hx; simp at hx; subst hx; exact h
theorem one2 {u v : Value} (h : u.oneCell' = true) (k : v.oneCell' = true) : ∀ x ∈ [u, v], x.oneCell' = true := by
  intro x hx
  simp at hx
  rcases hx with rfl | rfl
  · exact h
  · exact k

theorem range_getD {α β : Type} (l : List α) (d : α) (g : α → β) : (List.range l.length).map (fun i => g (l.getD i d)) = l.map g := by
  apply List.ext_getElem?
  intro i
  by_cases h : i < l.length
  · simp [h]
  · simp [h]

section
variable {P : Program} {t e : TypeId} {z : Value} {size bytes : Nat}

theorem run_app_nil (w : World) (E : Elem P t e z size bytes) (ty : TypeId) (base : Nat) (v : Value) (n : Nat) (xs : List Value) (hown : w.ownsRow base e size v n xs) (c : Nat) :
    (Builtin.append_ #[t, t] ty #[v, .slice none 0 c]).run P w = .ok v w := by
  obtain ⟨i, hi, _, _, _⟩ := info_parts E.info
  rcases hown.2 with ⟨rfl, rfl⟩ | ⟨g, cap, cur, rfl, _, _, hnc, _⟩
  · simp [Builtin.append_, run_underlying E.slice, sizeOf, typeInfo, hi, Builtin.lenOf, Builtin.firstCells]
  · simp [Builtin.append_, run_underlying E.slice, sizeOf, typeInfo, hi, Builtin.lenOf, Builtin.firstCells, hnc, storeCells]

theorem run_app (w : World) (E : Elem P t e z size bytes) (ty : TypeId) (base : Nat) (v : Value) (n : Nat) (xs : List Value) (hown : w.ownsRow base e size v n xs)
    (A : Option Addr) (m c : Nat) (f : Nat → Value) (hr : Rd w A m size f) (h1 : ∀ i, i < m * size → (f i).oneCell' = true)
    (hb : (n + m) * bytes ≤ 140737488355328) (hbase : base ≤ w.heap.size) (hnil : A = none → m = 0) :
    ∃ v' w', (Builtin.append_ #[t, t] ty #[v, .slice A m c]).run P w = .ok v' w' ∧ w'.ownsRow base e size v' (n + m) (xs ++ (List.range (m * size)).map f) ∧ w.grownBy w' v.ownBlock ∧
      (v'.ownBlock = v.ownBlock ∨ v'.ownBlock = some w.heap.size) := by
  rcases A with _ | ad
  · obtain rfl := hnil rfl
    exact ⟨v, w, run_app_nil w E ty base v n xs hown c, by simpa using hown, World.grownBy.refl w _, .inl rfl⟩
  · obtain ⟨i, hi, hz, hs, hby⟩ := info_parts E.info
    have hle : n + m ≤ (n + m) * bytes := Nat.le_mul_of_pos_right _ E.pos.2
    have hcells : ∀ j u, ((List.range (m * size)).map f)[j]? = some u → w.cell? (ad.add j) = some u := by
      intro j u hu
      have hj : j < m * size := by
        have := (List.getElem?_eq_some_iff.1 hu).1
        simpa using this
      have hm : 0 < m := Nat.pos_of_ne_zero (fun k => by subst k; simp at hj)
      obtain ⟨b, off, h, _, hc⟩ := hr hm
      injection h with h
      subst h
      have hadd : (⟨b, off, none⟩ : Addr).add j = ⟨b, off + j, none⟩ := by unfold Addr.add; split <;> simp_all
      rw [hadd, hc j hj]
      simp [hj] at hu
      rw [hu]
    obtain ⟨v', w', hrun, h2, h3, _, h5⟩ := run_append_own_at (P := P) w base t ty e i z size bytes E.slice hi hz hs hby E.cells E.pos.1 v n xs hown ad m c ((List.range (m * size)).map f)
      (by simp) hcells (by intro u hu; simp at hu; obtain ⟨j, hj, rfl⟩ := hu; exact h1 j hj) (by simp only [maxLen]; omega) hb hbase
    exact ⟨v', w', hrun, h2, h3, h5⟩

theorem wpList_app {ops : Array Oper} {rest : List Oper} {o : Oper} {a : Act} {Q : Exit → Act → World → Prop} {w : World} (E : Elem P t e z size bytes) (hgd : o.guard = none) (s x : Operand)
    (ho : o.op = .call { callee := .builtin .append, args := #[s, x], argTypes := #[t, t] })
    (base : Nat) (v : Value) (n : Nat) (xs : List Value) (hs : a.eval s = v) (hown : w.ownsRow base e size v n xs)
    (A : Option Addr) (m c : Nat) (f : Nat → Value) (hx : a.eval x = .slice A m c) (hr : Rd w A m size f) (h1 : ∀ i, i < m * size → (f i).oneCell' = true)
    (hb : (n + m) * bytes ≤ 140737488355328) (hbase : base ≤ w.heap.size) (hnil : A = none → m = 0)
    (h : ∀ v' w', w'.ownsRow base e size v' (n + m) (xs ++ (List.range (m * size)).map f) → Below base w w' → w.grownBy w' v.ownBlock → (v'.ownBlock = v.ownBlock ∨ v'.ownBlock = some w.heap.size) → wpList P ops Q rest (a.put o.dst v') w') :
    wpList P ops Q (o :: rest) a w :=
  wpList_plain hgd fun _ hK => by
    obtain ⟨v', w', hrun, h2, h3, h4⟩ := run_app (P := P) w E o.type base v n xs hown A m c f hr h1 hb hbase hnil
    have hbel : Below base w w' := (Below.refl _ _).grown h3 hbase fun k hk => (hown.lt k hk).1
    unfold Oper.wp execOp
    simp only [ho, resolve, invoke, builtin, Sem.run_bind, Sem.run_pure, Result.andThen_ok, List.map_toArray, List.map_cons, List.map_nil, hs, hx, hrun]
    exact hK _ _ (h v' w' h2 hbel h3 h4)

/-- 'b = append(b, x)' of one element: its cells lie in a block of their own, just made. -/
theorem wpList_app1 {ops : Array Oper} {rest : List Oper} {o : Oper} {a : Act} {Q : Exit → Act → World → Prop} {w : World} (E : Elem P t e z size bytes) (hgd : o.guard = none) (s x : Operand)
    (ho : o.op = .call { callee := .builtin .append, args := #[s, x], argTypes := #[t, t] })
    (base : Nat) (v : Value) (n : Nat) (xs : List Value) (us : List Value) (e' : TypeId) (hs : a.eval s = v) (hown : w.ownsRow base e size v n xs)
    (hx : a.eval x = .slice (some ⟨w.heap.size, 0, none⟩) 1 1) (hl : us.length = size) (h1 : ∀ u ∈ us, u.oneCell' = true)
    (hb : (n + 1) * bytes ≤ 140737488355328) (hbase : base ≤ w.heap.size)
    (h : ∀ v' w', w'.ownsRow base e size v' (n + 1) (xs ++ us) → Below base w w' → w.grownBy w' v.ownBlock → (v'.ownBlock = v.ownBlock ∨ v'.ownBlock = some (w.heap.size + 1)) → wpList P ops Q rest (a.put o.dst v') w') :
    wpList P ops Q (o :: rest) a (w.alloc (.cells us.toArray e')) := by
  have hr : Rd (w.alloc (.cells us.toArray e')) (some ⟨w.heap.size, 0, none⟩) 1 size (fun i => us.getD i undef) := Rd.of_blk (Blk.made w e' us.toArray) 0 (by simp [hl]) (by
    intro i hi
    have hi2 : i < us.length := by omega
    simp [hi2])
  have hus : (List.range (1 * size)).map (fun i => us.getD i undef) = us := by
    have := range_getD us undef id
    simpa [hl] using this
  refine wpList_app E hgd s x ho base v n xs hs (hown.alloc _) (some ⟨w.heap.size, 0, none⟩) 1 1 _ hx hr ?_ hb (by simp; omega) (by simp) ?_
  · intro i hi
    have hi2 : i < us.length := by omega
    refine h1 _ ?_
    simp [hi2]
  · intro v' w' h2 h3 h4 h5
    rw [hus] at h2
    refine h v' w' h2 (((Below.refl base w).alloc hbase _).trans h3) ?_ ?_
    · exact ⟨h4.os, h4.tape, h4.output, Nat.le_trans (by simp) h4.size, fun k hk hne => (h4.block k (by simp; omega) hne).trans (Below.heap_alloc w _ k hk)⟩
    · rcases h5 with h5 | h5
      · exact .inl h5
      · exact .inr (by rw [h5]; simp)

/-- An owned slice reads as a list. -/
theorem own_rd {w : World} {base n : Nat} {A : Option Addr} {c : Nat} {xs : List Value} (h : w.ownsRow base e size (.slice A n c) n xs) : Rd w A n size (fun i => xs.getD i undef) := fun hn => by
  rcases h.2 with ⟨_, rfl⟩ | ⟨g, cap, cur, hv, hb, hg, _⟩
  · exact absurd hn (by omega)
  · injection hv with h1 h2 h3
    subst h1
    refine ⟨g, 0, rfl, (Array.getElem?_eq_some_iff.1 hg).1, fun i hi => ?_⟩
    have hlt : i < xs.length := by rw [h.1]; exact hi
    have := h.cells (g := g) rfl i xs[i] (List.getElem?_eq_getElem hlt)
    have hadd : (⟨g, 0, none⟩ : Addr).add i = ⟨g, 0 + i, none⟩ := by unfold Addr.add; split <;> simp_all
    rw [hadd] at this
    rw [this]
    simp [hlt]
/-- .. and what it is as a value. -/
theorem own_form {w : World} {base n : Nat} {v : Value} {xs : List Value} (h : w.ownsRow base e size v n xs) : ∃ A c, v = .slice A n c ∧ (A = none → n = 0) ∧ n ≤ c ∧ c ≤ maxLen := by
  rcases h.2 with ⟨rfl, rfl⟩ | ⟨g, cap, cur, rfl, _, _, h1, h2, _⟩
  · exact ⟨none, 0, rfl, fun _ => rfl, Nat.le_refl _, by unfold maxLen; omega⟩
  · exact ⟨some ⟨g, 0, none⟩, cap, rfl, (fun k => by cases k), h1, h2⟩

/-- A byte as a value. -/
def bv (c : UInt8) : Value := .int .u8 (c.toNat : Int)
/-- The text of an owned slice of bytes. -/
theorem own_text {w : World} {base n : Nat} {v : Value} {l : List UInt8} (src dst : TypeId) (hs : P.underlying src = some (.slice e)) (he : P.underlying e = some (.int .u8)) (hd : P.underlying dst = some .string)
    (h : w.ownsRow base e 1 v n (l.map bv)) : (convert src dst v).run P w = .ok (.string ⟨l.toArray⟩) w := by
  have hl : l.length = n := by have := h.1; simpa using this
  rcases h.2 with ⟨rfl, rfl⟩ | ⟨g, cap, cur, rfl, hb, hg, _⟩
  · have : l = [] := List.eq_nil_of_length_eq_zero hl
    subst this
    rw [run_convert_bytes_string w src dst e none 0 0 hs he hd]
    rfl
  · subst hl
    refine run_convert_bytes_back w src dst e ⟨g, 0, none⟩ cap l hs he hd fun j hj => ?_
    exact h.cells (g := g) rfl j (bv l[j]) (by simp [hj])
end
end Go.Proofs.YteebghoijaaakaaGreat
/- Plain facts on bags, on: putting one by one; the rank of a value; the value of a rank. No program in sight. By the prover of this repo. -/
namespace Go.Proofs.YteebghoijaaakaaGreat
namespace BagM
open TwigM Go.RowKit

/-- A value's weight more, gone through once. -/
def putR (x n : Int) (done : Bool) : List Rg → List Rg
  | [] => if done = true then [] else [(x, n)]
  | p :: l => if p.1 = x then (p.1, p.2 + n) :: putR x n true l else if x < p.1 ∧ done = false then (x, n) :: p :: putR x n true l else p :: putR x n done l
theorem putR_done (x n : Int) : ∀ l : List Rg, (∀ p ∈ l, x < p.1) → putR x n true l = l
  | [], _ => rfl
  | p :: l, h => by
    have h1 := h p (by simp)
    rw [putR, if_neg (by omega), if_neg (by simp), putR_done x n l fun q hq => h q (by simp [hq])]
theorem putR_put (x n : Int) : ∀ l : List Rg, (l.Pairwise fun p q => p.1 < q.1) → putR x n false l = put x n l
  | [], _ => rfl
  | p :: l, h => by
    have h' := List.pairwise_cons.1 h
    rw [putR, put]
    by_cases h1 : p.1 = x
    · rw [if_pos h1, if_pos h1, putR_done x n l fun q hq => by have := h'.1 q hq; omega, h1]
    · rw [if_neg h1, if_neg h1]
      by_cases h2 : x < p.1
      · rw [if_pos ⟨h2, rfl⟩, if_pos h2, putR_done x n l fun q hq => by have := h'.1 q hq; omega]
      · rw [if_neg (fun k => h2 k.1), if_neg h2, putR_put x n l h'.2]

theorem bet_take (x y : Int) : ∀ l : List Rg, (l.Pairwise fun p q => p.1 < q.1) → (∀ p ∈ l, x ≤ p.1) → ∀ i, (h : i < l.length) → l[i].1 = y → bet x y l = tot (l.take (i + 1))
  | [], _, _, i, h, _ => by simp at h
  | p :: l, hs, hx, 0, _, e => by
    have h' := List.pairwise_cons.1 hs
    simp only [List.getElem_cons_zero] at e
    rw [bet, if_pos ⟨hx p (by simp), by omega⟩, bet_zero x y l fun q hq => by have := h'.1 q hq; omega]
    simp [tot]
  | p :: l, hs, hx, i + 1, h, e => by
    have h' := List.pairwise_cons.1 hs
    simp only [List.getElem_cons_succ] at e
    have hil : i < l.length := by simpa using h
    have hlt := h'.1 l[i] (List.getElem_mem hil)
    rw [bet, if_pos ⟨hx p (by simp), by omega⟩, bet_take x y l h'.2 (fun q hq => hx q (by simp [hq])) i hil e, List.take_succ_cons, tot]
theorem rank_at {L : Int} (l : List Rg) (hs : l.Pairwise fun p q => p.1 < q.1) (hi0 : In L l) (i : Nat) (h : i < l.length) : rank l[i].1 l = tot (l.take (i + 1)) :=
  bet_take 0 _ l hs (fun p hp => (hi0 p hp).1) i h rfl
theorem kth_spec : ∀ (l : List Rg) (r : Int) (i : Nat), (∀ p ∈ l, 1 ≤ p.2) → (h : i < l.length) → tot (l.take i) < r → r ≤ tot (l.take (i + 1)) → kthGo r l = l[i].1
  | [], r, i, _, h, _, _ => by simp at h
  | p :: l, r, 0, _, _, _, h2 => by
    simp [tot] at h2
    rw [kthGo, if_pos h2]
    rfl
  | p :: l, r, i + 1, hp, h, h1, h2 => by
    have hpl : ∀ q ∈ l, 1 ≤ q.2 := fun q hq => hp q (by simp [hq])
    have h3 := tot_nonneg (l.take i) fun q hq => hpl q (List.mem_of_mem_take hq)
    rw [List.take_succ_cons, tot] at h1 h2
    rw [kthGo, if_neg (by omega), List.getElem_cons_succ]
    exact kth_spec l (r - p.2) i hpl (by simpa using h) (by omega) (by omega)
end BagM
end Go.Proofs.YteebghoijaaakaaGreat
/- Plain facts on bags, on: ranks never fall; what is between; the value of a rank; ranks of what is poured, and of an image. No program in sight. By the prover of this repo. -/
namespace Go.Proofs.YteebghoijaaakaaGreat
namespace BagM
open TwigM Go.RowKit

theorem bet_put (x y a n : Int) : ∀ l : List Rg, bet x y (put a n l) = bet x y l + if x ≤ a ∧ a ≤ y then n else 0
  | [] => by simp [put, bet]
  | p :: l => by
    rw [put]
    by_cases h1 : p.1 = a
    · rw [if_pos h1, bet, bet, h1]
      simp only
      by_cases h2 : x ≤ a ∧ a ≤ y
      · rw [if_pos h2, if_pos h2, if_pos h2]; omega
      · rw [if_neg h2, if_neg h2, if_neg h2]; omega
    · rw [if_neg h1]
      by_cases h3 : a < p.1
      · rw [if_pos h3, bet]; simp only; omega
      · rw [if_neg h3, bet, bet_put x y a n l, bet]; omega
theorem bet_putAll (x y : Int) : ∀ (r l : List Rg), bet x y (putAll l r) = bet x y l + bet x y r
  | [], l => by simp [putAll, bet]
  | p :: r, l => by rw [putAll, bet_putAll x y r, bet_put, bet]; omega
theorem rank_pour (x : Int) (l r : List Rg) : rank x (putAll l r) = rank x l + rank x r := bet_putAll 0 x r l
theorem bet_split (x y : Int) (h : x ≤ y) : ∀ l : List Rg, (∀ p ∈ l, 0 ≤ p.1) → bet x y l = rank y l - rank (x - 1) l
  | [], _ => rfl
  | p :: l, hl => by
    have h0 := hl p (by simp)
    have ih := bet_split x y h l fun q hq => hl q (by simp [hq])
    unfold rank at *
    rw [bet, bet, bet, ih]
    by_cases h1 : p.1 ≤ x - 1
    · rw [if_neg (by omega), if_pos (by omega), if_pos (by omega)]; omega
    · by_cases h2 : p.1 ≤ y
      · rw [if_pos (by omega), if_pos (by omega), if_neg (by omega)]; omega
      · rw [if_neg (by omega), if_neg (by omega), if_neg (by omega)]; omega
theorem rank_mono (x y : Int) (h : x ≤ y) : ∀ l : List Rg, (∀ p ∈ l, 1 ≤ p.2) → rank x l ≤ rank y l
  | [], _ => Int.le_refl _
  | p :: l, hl => by
    have h0 := hl p (by simp)
    have ih := rank_mono x y h l fun q hq => hl q (by simp [hq])
    unfold rank at *
    rw [bet, bet]
    by_cases h1 : 0 ≤ p.1 ∧ p.1 ≤ x
    · rw [if_pos h1, if_pos (by omega)]; omega
    · rw [if_neg h1]; split <;> omega
/-- Where the value of a rank lies. -/
theorem kth_place : ∀ (l : List Rg) (r : Int), (∀ p ∈ l, 1 ≤ p.2) → 1 ≤ r → r ≤ tot l → ∃ i, ∃ h : i < l.length, tot (l.take i) < r ∧ r ≤ tot (l.take (i + 1)) ∧ kthGo r l = l[i].1
  | [], r, _, h1, h2 => by simp [tot] at h2; omega
  | p :: l, r, hl, h1, h2 => by
    rw [tot] at h2
    by_cases hp : r ≤ p.2
    · exact ⟨0, by simp, by simp [tot]; omega, by simp [tot]; exact hp, by rw [kthGo, if_pos hp]; rfl⟩
    · obtain ⟨i, h, g1, g2, g3⟩ := kth_place l (r - p.2) (fun q hq => hl q (by simp [hq])) (by omega) (by omega)
      exact ⟨i + 1, by simp; exact h, by rw [List.take_succ_cons, tot]; omega, by rw [List.take_succ_cons, tot]; omega, by rw [kthGo, if_neg hp, g3]; simp⟩
theorem bet_before (x y : Int) : ∀ l : List Rg, (l.Pairwise fun p q => p.1 < q.1) → (∀ p ∈ l, x ≤ p.1) → ∀ i, (h : i < l.length) → l[i].1 - 1 = y → bet x y l = tot (l.take i)
  | [], _, _, i, h, _ => by simp at h
  | p :: l, hs, hx, 0, _, e => by
    have h' := List.pairwise_cons.1 hs
    simp only [List.getElem_cons_zero] at e
    rw [bet, if_neg (by omega), bet_zero x y l fun q hq => by have := h'.1 q hq; omega]
    simp [tot]
  | p :: l, hs, hx, i + 1, h, e => by
    have h' := List.pairwise_cons.1 hs
    simp only [List.getElem_cons_succ] at e
    have hil : i < l.length := by simpa using h
    have hlt := h'.1 l[i] (List.getElem_mem hil)
    rw [bet, if_pos ⟨hx p (by simp), by omega⟩, bet_before x y l h'.2 (fun q hq => hx q (by simp [hq])) i hil e, List.take_succ_cons, tot]
/-- The value of a rank is the least one of that rank. -/
theorem kth_rank {L : Int} (l : List Rg) (r : Int) (ho : Ok l) (hi0 : In L l) (h : (kthF l r).2 = 0) : r ≤ rank (kthF l r).1 l ∧ rank ((kthF l r).1 - 1) l < r := by
  unfold kthF at h ⊢
  by_cases h0 : l = []
  · rw [if_pos h0] at h; simp at h
  · rw [if_neg h0] at h ⊢
    by_cases h1 : r < 1 ∨ tot l < r
    · rw [if_pos h1] at h; simp at h
    · rw [if_neg h1]
      obtain ⟨i, hi1, g1, g2, g3⟩ := kth_place l r ho.pos (by omega) (by omega)
      simp only
      rw [g3, rank_at l ho.rise hi0 i hi1]
      refine ⟨g2, ?_⟩
      have : rank (l[i].1 - 1) l = tot (l.take i) := bet_before 0 _ l ho.rise (fun p hp => (hi0 p hp).1) i hi1 rfl
      omega
theorem kth_bound {L : Int} (l : List Rg) (r : Int) (hi0 : In L l) (ho : Ok l) (hL : L ≤ 48) : 0 ≤ (kthF l r).1 ∧ (kthF l r).1 ≤ 281474976710656 := by
  have hp := pw_le48 hL
  unfold kthF
  split
  · simp
  · split
    · simp
    · rename_i h0 h1
      obtain ⟨i, hi1, g1, g2, g3⟩ := kth_place l r ho.pos (by omega) (by omega)
      simp only
      rw [g3]
      have := hi0 l[i] (List.getElem_mem hi1)
      omega
/-- An image's ranks. -/
theorem rank_image {L : Int} (k v : Int) (hk : 0 ≤ k) (hv : 0 ≤ v) (r : List Rg) (hi0 : In L r) : rank v (imageF k r) = rank ((v + 1) * pw k - 1) r := by
  unfold imageF rank
  rw [bet_putAll]
  have hp := pw_pos k
  have key : ∀ r : List Rg, (∀ p ∈ r, 0 ≤ p.1) → bet 0 v (cut k r) = bet 0 ((v + 1) * pw k - 1) r := by
    intro r
    induction r with
    | nil => intro _; rfl
    | cons p r ih =>
      intro hr
      have h0 := hr p (by simp)
      have e : cut k (p :: r) = (p.1 / pw k, p.2) :: cut k r := rfl
      rw [e, bet, bet, ih fun q hq => hr q (by simp [hq])]
      have hiff : (0 ≤ p.1 / pw k ∧ p.1 / pw k ≤ v) ↔ (0 ≤ p.1 ∧ p.1 ≤ (v + 1) * pw k - 1) := by
        have h1 := Int.ediv_nonneg h0 (show 0 ≤ pw k by omega)
        have h2 : p.1 / pw k < v + 1 ↔ p.1 < (v + 1) * pw k := Int.ediv_lt_iff_lt_mul (by omega)
        constructor
        · intro h; exact ⟨h0, by have := h2.1 (by omega); omega⟩
        · intro h; exact ⟨h1, by have := h2.2 (by omega); omega⟩
      simp only [hiff]
  rw [key r fun p hp => (hi0 p hp).1]
  simp [bet]
theorem image_in {k L : Int} (hk : 0 ≤ k) (hkL : k ≤ L) (r : List Rg) (h : In L r) : In (L - k) (imageF k r) := by
  refine putAll_in _ _ (In.nil _) fun q hq => ?_
  obtain ⟨p, hp, rfl⟩ := List.mem_map.1 hq
  obtain ⟨h0, h1⟩ := h p hp
  have hpw := pw_pos k
  refine ⟨Int.ediv_nonneg h0 (by omega), ?_⟩
  refine (Int.ediv_lt_iff_lt_mul (by omega)).2 ?_
  have e := pw_add (a := L - k) (b := k) (by omega) hk
  rw [show L - k + k = L by omega] at e
  show p.1 < pw (L - k) * pw k
  omega
theorem prod_in {k L v : Int} (hk : 0 ≤ k) (hkL : k ≤ L) (hL : L ≤ 48) (h0 : 0 ≤ v) (h1 : v < pw (L - k)) : 1 ≤ (v + 1) * pw k ∧ (v + 1) * pw k ≤ 281474976710656 := by
  have hpw := pw_pos k
  have e := pw_add (a := L - k) (b := k) (by omega) hk
  rw [show L - k + k = L by omega] at e
  have h48 := pw_le48 hL
  have a1 : (v + 1) * pw k ≤ pw (L - k) * pw k := Int.mul_le_mul_of_nonneg_right (by omega) (by omega)
  have a2 : 1 * pw k ≤ (v + 1) * pw k := Int.mul_le_mul_of_nonneg_right (by omega) (by omega)
  omega
theorem tot_image (k : Int) (r : List Rg) : tot (imageF k r) = tot r := by
  unfold imageF; rw [tot_putAll, tot_cut]; simp [tot]
theorem pour_in {L M : Int} {l r : List Rg} (hl : In L l) (hr : In L r) : In L (pourF L M l r).1 := by
  unfold pourF
  split
  · exact hl
  · split
    · exact hl
    · exact putAll_in r l hl hr
theorem pour_rank {L : Int} (x : Int) (l r : List Rg) (h : (pourF L L l r).2 = 0) : rank x (pourF L L l r).1 = rank x l + rank x r := by
  unfold pourF at h ⊢
  rw [if_neg (by simp)] at h ⊢
  by_cases h1 : 72057594037927935 - tot l < tot r
  · rw [if_pos h1] at h; simp at h
  · rw [if_neg h1]; exact rank_pour x l r
end BagM
end Go.Proofs.YteebghoijaaakaaGreat

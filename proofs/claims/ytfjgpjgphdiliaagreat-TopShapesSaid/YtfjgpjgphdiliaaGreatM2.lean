/- Part 2 of the proof: texts joined by this repo's tools/merge.py (RollM RollL). By the prover of this repo. -/
import Derived.Test.YtfjgpjgphdiliaaGreatM1
import Derived.WalkKit
set_option linter.unusedVariables false
set_option linter.unusedSimpArgs false
/- Plain facts on lists of nodes with weights: their sum, their order, each number once. No program in sight. By the prover of this repo. -/
namespace Go.Proofs.YtfjgpjgphdiliaaGreat
namespace RollM
open TwigM Go.RowKit

abbrev Nd := Int × Int

/-- The weight of all, from n on. -/
def totGo (n : Int) : List Nd → Int × Bool
  | [] => (n, true)
  | p :: l => if p.2 < 0 ∨ 72057594037927935 - n < p.2 then (0, false) else totGo (n + p.2) l
def totF (l : List Nd) : Int × Bool := totGo 0 l
/-- Are all nodes, rising, of some weight? -/
def rightGo (L last : Int) : List Nd → Bool
  | [] => true
  | p :: r => if p.1 ≤ last ∨ rightB L p.1 = false ∨ p.2 < 1 then false else rightGo L p.1 r
def uniB (L : Int) : Bool := decide (1 ≤ L ∧ L ≤ 48)
def rollB (L : Int) (r : List Nd) : Bool := rightGo L 0 r && ((totF r).2 && uniB L)
/-- A node's weight. -/
def findF (id : Int) : List Nd → Int
  | [] => 0
  | p :: r => if p.1 = id then p.2 else findF id r

section
variable (lt : Nd → Nd → Bool)
/-- One more, behind all that it isn't ahead of. -/
def ins (x : Nd) : List Nd → List Nd
  | [] => [x]
  | y :: l => if lt x y = true then x :: y :: l else y :: ins x l
def isort (l : List Nd) : List Nd := l.foldl (fun acc x => ins lt x acc) []
/-- Two as one: of the first as long as none of the second stands ahead. -/
def mrg : List Nd → List Nd → List Nd
  | [], b => b
  | a :: A, [] => a :: A
  | a :: A, b :: B => if lt b a = true then b :: mrg (a :: A) B else a :: mrg A (b :: B)
termination_by a b => a.length + b.length
end
section
variable {lt : Nd → Nd → Bool}
/-- A strict order in which what is not apart is alike. -/
structure Ord (lt : Nd → Nd → Bool) : Prop where
  tr : ∀ x y z, lt x y = true → lt y z = true → lt x z = true
  ne : ∀ x y z, lt x z = true → lt x y = true ∨ lt y z = true
  irr : ∀ x, lt x x = false

theorem mrg_nil (b : List Nd) : mrg lt [] b = b := by rw [mrg]
theorem mrg_nil' (a : List Nd) : mrg lt a [] = a := by cases a <;> rw [mrg]
theorem mrg_cons (a b : Nd) (A B : List Nd) : mrg lt (a :: A) (b :: B) = if lt b a = true then b :: mrg lt (a :: A) B else a :: mrg lt A (b :: B) := by rw [mrg]

theorem mrg_ins (O : Ord lt) (x : Nd) : ∀ (n : Nat) (A B : List Nd), A.length + B.length ≤ n → mrg lt A (ins lt x B) = ins lt x (mrg lt A B) := by
  intro n
  induction n with
  | zero =>
    intro A B h
    have hA : A = [] := List.eq_nil_of_length_eq_zero (by omega)
    subst hA
    rw [mrg_nil, mrg_nil]
  | succ n ih =>
    intro A B h
    cases A with
    | nil => rw [mrg_nil, mrg_nil]
    | cons a A =>
      cases B with
      | nil =>
        rw [mrg_nil', ins, ins, mrg_cons]
        by_cases h1 : lt x a = true
        · rw [if_pos h1, if_pos h1, mrg_nil']
        · rw [if_neg h1, if_neg h1]
          have := ih A [] (by simp at h ⊢; omega)
          rw [ins, mrg_nil'] at this
          rw [this]
      | cons b B =>
        simp only [List.length_cons] at h
        by_cases h1 : lt x b = true
        · rw [ins, if_pos h1, mrg_cons, mrg_cons]
          by_cases h2 : lt x a = true
          · rw [if_pos h2]
            by_cases h3 : lt b a = true
            · rw [if_pos h3, ins, if_pos h1]
            · rw [if_neg h3, ins, if_pos h2]
          · rw [if_neg h2]
            have h3 : ¬ lt b a = true := fun k => h2 (O.tr _ _ _ h1 k)
            rw [if_neg h3]
            conv => rhs; rw [ins, if_neg h2]
            have := ih A (b :: B) (by simp; omega)
            rw [ins, if_pos h1] at this
            rw [this]
        · rw [ins, if_neg h1, mrg_cons, mrg_cons]
          by_cases h3 : lt b a = true
          · rw [if_pos h3, if_pos h3, ih (a :: A) B (by simp; omega)]
            conv => rhs; rw [ins, if_neg h1]
          · rw [if_neg h3, if_neg h3]
            have h2 : ¬ lt x a = true := fun k => (O.ne x b a k).elim h1 h3
            conv => rhs; rw [ins, if_neg h2]
            have := ih A (b :: B) (by simp; omega)
            rw [ins, if_neg h1] at this
            rw [this]

theorem isort_snoc (l : List Nd) (x : Nd) : isort lt (l ++ [x]) = ins lt x (isort lt l) := by simp [isort]
theorem isort_append (O : Ord lt) (l m : List Nd) : mrg lt (isort lt l) (isort lt m) = isort lt (l ++ m) := by
  have hrec : ∀ k : List Nd, mrg lt (isort lt l) (isort lt k.reverse) = isort lt (l ++ k.reverse) := by
    intro k
    induction k with
    | nil => simp [isort, mrg_nil']
    | cons x k ih => rw [List.reverse_cons, isort_snoc, mrg_ins O x _ _ _ (Nat.le_refl _), ih, ← List.append_assoc, isort_snoc]
  have := hrec m.reverse
  rwa [List.reverse_reverse] at this

theorem ins_length (x : Nd) : ∀ l : List Nd, (ins lt x l).length = l.length + 1
  | [] => rfl
  | y :: l => by
    rw [ins]
    split
    · rfl
    · simp [ins_length x l]
theorem isort_length (l : List Nd) : (isort lt l).length = l.length := by
  have hrec : ∀ k : List Nd, (isort lt k.reverse).length = k.length := by
    intro k
    induction k with
    | nil => rfl
    | cons x k ih => rw [List.reverse_cons, isort_snoc, ins_length, ih]; rfl
  have := hrec l.reverse
  rw [List.reverse_reverse, List.length_reverse] at this
  exact this
theorem mrg_length : ∀ (n : Nat) (A B : List Nd), A.length + B.length ≤ n → (mrg lt A B).length = A.length + B.length := by
  intro n
  induction n with
  | zero =>
    intro A B h
    have hA : A = [] := List.eq_nil_of_length_eq_zero (by omega)
    subst hA
    rw [mrg_nil]; simp
  | succ n ih =>
    intro A B h
    cases A with
    | nil => rw [mrg_nil]; simp
    | cons a A =>
      cases B with
      | nil => rw [mrg_nil']; simp
      | cons b B =>
        simp only [List.length_cons] at h
        rw [mrg_cons]
        split
        · rw [List.length_cons, ih _ _ (by simp; omega)]; simp; omega
        · rw [List.length_cons, ih _ _ (by simp; omega)]; simp; omega

/-- In order: none stands ahead of an earlier one. -/
def Srt (lt : Nd → Nd → Bool) (l : List Nd) : Prop := l.Pairwise fun x y => lt y x = false
theorem ins_mem (x : Nd) : ∀ (l : List Nd) (z : Nd), z ∈ ins lt x l ↔ z = x ∨ z ∈ l
  | [], z => by simp [ins]
  | y :: l, z => by
    rw [ins]
    split
    · simp
    · rw [List.mem_cons, ins_mem x l z, List.mem_cons]
      constructor
      · rintro (h | h | h) <;> simp [h]
      · rintro (h | h | h) <;> simp [h]
theorem ins_srt (O : Ord lt) (x : Nd) : ∀ l : List Nd, Srt lt l → Srt lt (ins lt x l)
  | [], _ => by simp [ins, Srt]
  | y :: l, h => by
    unfold Srt at *
    rw [List.pairwise_cons] at h
    rw [ins]
    by_cases h1 : lt x y = true
    · rw [if_pos h1, List.pairwise_cons, List.pairwise_cons]
      refine ⟨fun z hz => ?_, h⟩
      have hyx : lt y x = false := by
        cases k : lt y x with
        | false => rfl
        | true => have := O.tr _ _ _ h1 k; rw [O.irr] at this; cases this
      rw [List.mem_cons] at hz
      rcases hz with rfl | hz
      · exact hyx
      · cases k : lt z x with
        | false => rfl
        | true => have := O.tr _ _ _ k h1; rw [h.1 z hz] at this; cases this
    · rw [if_neg h1, List.pairwise_cons]
      refine ⟨fun z hz => ?_, ins_srt O x l h.2⟩
      rcases (ins_mem x l z).1 hz with rfl | hz
      · simpa using h1
      · exact h.1 z hz
theorem isort_srt (O : Ord lt) (l : List Nd) : Srt lt (isort lt l) := by
  have hrec : ∀ k : List Nd, Srt lt (isort lt k.reverse) := by
    intro k
    induction k with
    | nil => simp [isort, Srt]
    | cons x k ih => rw [List.reverse_cons, isort_snoc]; exact ins_srt O x _ ih
  have := hrec l.reverse
  rwa [List.reverse_reverse] at this
theorem isort_mem (l : List Nd) (z : Nd) : z ∈ isort lt l ↔ z ∈ l := by
  have hrec : ∀ k : List Nd, z ∈ isort lt k.reverse ↔ z ∈ k := by
    intro k
    induction k with
    | nil => simp [isort]
    | cons x k ih => rw [List.reverse_cons, isort_snoc, ins_mem, ih, List.mem_cons]
  have := hrec l.reverse
  rw [List.reverse_reverse, List.mem_reverse] at this
  exact this

/-- Where one more is put, seen from the end. -/
theorem ins_at (O : Ord lt) (x : Nd) : ∀ (l : List Nd) (k : Nat), Srt lt l → k ≤ l.length → (∀ j, k ≤ j → ∀ h : j < l.length, lt x l[j] = true) → (∀ h : k - 1 < l.length, 0 < k → lt x l[k - 1] = false) →
    l.take k ++ x :: l.drop k = ins lt x l
  | [], k, _, hk, _, _ => by
    have : k = 0 := by simpa using hk
    subst this
    simp [ins]
  | y :: l, 0, _, _, h1, _ => by
    have := h1 0 (Nat.le_refl _) (by simp)
    simp at this
    simp [ins, this]
  | y :: l, k + 1, hs, hk, h1, h2 => by
    have hs' := hs
    unfold Srt at hs
    rw [List.pairwise_cons] at hs
    have hy : lt x y = false := by
      have h3 := h2 (by simp at hk ⊢; omega) (by omega)
      cases k with
      | zero => simpa using h3
      | succ k =>
        simp only [Nat.add_sub_cancel] at h3
        have hl : k < l.length := by simp at hk; omega
        rw [List.getElem_cons_succ] at h3
        cases e : lt x y with
        | false => rfl
        | true =>
          have hle := hs.1 l[k] (List.getElem_mem hl)
          rcases O.ne x l[k] y e with h | h
          · rw [h3] at h; cases h
          · rw [hle] at h; cases h
    rw [ins, if_neg (by rw [hy]; simp), List.take_succ_cons, List.drop_succ_cons, List.cons_append]
    rw [ins_at O x l k hs.2 (by simpa using hk) (fun j hj hl => by have := h1 (j + 1) (by omega) (by simp; omega); simpa using this) (fun hl h0 => by
      have := h2 (by simp; omega) (by omega)
      obtain ⟨m, rfl⟩ : ∃ m, k = m + 1 := ⟨k - 1, by omega⟩
      simpa using this)]
end

/-- By rising numbers. -/
def ltS (a b : Nd) : Bool := decide (a.1 < b.1)
theorem ordS : Ord ltS := ⟨fun x y z h k => by simp [ltS] at *; omega, fun x y z h => by simp [ltS] at *; omega, fun x => by simp [ltS]⟩
/-- By the last values that nodes hold; of the same, the greater number ahead. -/
def endF (L id : Int) : Int := (endsF L id).2.1
def ltP (L : Int) (a b : Nd) : Bool := decide (endF L a.1 < endF L b.1 ∨ (endF L a.1 = endF L b.1 ∧ b.1 < a.1))
theorem ordP (L : Int) : Ord (ltP L) := ⟨fun x y z h k => by simp [ltP] at *; omega, fun x y z h => by simp [ltP] at *; omega, fun x => by simp [ltP]⟩

/-- The last one's number. -/
def lastId : List Nd → Option Int
  | [] => none
  | [p] => some p.1
  | _ :: l => lastId l
/-- The last one's weight more. -/
def bump (n : Int) : List Nd → List Nd
  | [] => []
  | [p] => [(p.1, wrap64 (p.2 + n))]
  | p :: l => p :: bump n l
/-- Each number once: what is out, what is to come. -/
def foldGo (out : List Nd) : List Nd → List Nd × Bool
  | [] => (out, true)
  | p :: r => if p.1 < 1 then ([], false) else if p.2 = 0 then foldGo out r else if lastId out = some p.1 then foldGo (bump p.2 out) r else foldGo (out ++ [p]) r
def foldF (l : List Nd) : List Nd × Bool := if (totF l).2 = true then foldGo [] (isort ltS l) else ([], false)
def joinF (a b : List Nd) : List Nd × Bool := foldF (a ++ b)
def postF (L : Int) (r : List Nd) : List Nd × Bool := if rollB L r = true then (isort (ltP L) r, true) else ([], false)
end RollM
end Go.Proofs.YtfjgpjgphdiliaaGreat
/- Plain facts on lists of nodes, folded: the folded list hangs on no order, weighs what was weighed, stays as it is, and is a roll. No program in sight. By the prover of this repo. -/
namespace Go.Proofs.YtfjgpjgphdiliaaGreat
namespace RollM
open TwigM Go.RowKit

/-- What all weigh, and what one number weighs. -/
def sumL : List Nd → Int
  | [] => 0
  | p :: l => p.2 + sumL l
def wt (id : Int) : List Nd → Int
  | [] => 0
  | p :: l => (if p.1 = id then p.2 else 0) + wt id l
def Cnt (l : List Nd) : Prop := ∀ p ∈ l, 0 ≤ p.2
def Ids (l : List Nd) : Prop := ∀ p ∈ l, 1 ≤ p.1

theorem sumL_append : ∀ a b : List Nd, sumL (a ++ b) = sumL a + sumL b
  | [], b => by simp [sumL]
  | p :: a, b => by rw [List.cons_append, sumL, sumL, sumL_append a b]; omega
theorem wt_append (id : Int) : ∀ a b : List Nd, wt id (a ++ b) = wt id a + wt id b
  | [], b => by simp [wt]
  | p :: a, b => by rw [List.cons_append, wt, wt, wt_append id a b]; omega
theorem sumL_nonneg : ∀ l : List Nd, Cnt l → 0 ≤ sumL l
  | [], _ => by simp [sumL]
  | p :: l, h => by
    have h1 := h p (by simp)
    have h2 := sumL_nonneg l fun x hx => h x (by simp [hx])
    rw [sumL]; omega
theorem cnt_append {a b : List Nd} : Cnt (a ++ b) ↔ Cnt a ∧ Cnt b := by
  unfold Cnt
  simp only [List.mem_append]
  exact ⟨fun h => ⟨fun p hp => h p (.inl hp), fun p hp => h p (.inr hp)⟩, fun h p hp => hp.elim (h.1 p) (h.2 p)⟩
theorem ids_append {a b : List Nd} : Ids (a ++ b) ↔ Ids a ∧ Ids b := by
  unfold Ids
  simp only [List.mem_append]
  exact ⟨fun h => ⟨fun p hp => h p (.inl hp), fun p hp => h p (.inr hp)⟩, fun h p hp => hp.elim (h.1 p) (h.2 p)⟩

theorem totGo_ok : ∀ (l : List Nd) (n : Int), 0 ≤ n → Cnt l → n + sumL l ≤ 72057594037927935 → totGo n l = (n + sumL l, true)
  | [], n, _, _, _ => by simp [totGo, sumL]
  | p :: l, n, h0, hc, hs => by
    have h1 := hc p (by simp)
    have hc2 : Cnt l := fun x hx => hc x (by simp [hx])
    have h2 := sumL_nonneg l hc2
    rw [sumL] at hs
    rw [totGo, if_neg (by omega), totGo_ok l (n + p.2) (by omega) hc2 (by omega), sumL]
    congr 1; omega
theorem totGo_back : ∀ (l : List Nd) (n : Int), (totGo n l).2 = true → n ≤ 72057594037927935 → Cnt l ∧ n + sumL l ≤ 72057594037927935
  | [], n, _, hn => ⟨(fun p hp => by cases hp), by simpa [sumL] using hn⟩
  | p :: l, n, h, hn => by
    rw [totGo] at h
    by_cases hb : p.2 < 0 ∨ 72057594037927935 - n < p.2
    · rw [if_pos hb] at h; cases h
    · rw [if_neg hb] at h
      have := totGo_back l (n + p.2) h (by omega)
      refine ⟨fun x hx => ?_, by rw [sumL]; omega⟩
      rcases List.mem_cons.1 hx with rfl | hx
      · omega
      · exact this.1 x hx
theorem totF_iff (l : List Nd) : (totF l).2 = true ↔ Cnt l ∧ sumL l ≤ 72057594037927935 := by
  constructor
  · intro h
    have := totGo_back l 0 h (by omega)
    exact ⟨this.1, by omega⟩
  · intro h
    show (totGo 0 l).2 = true
    rw [totGo_ok l 0 (by omega) h.1 (by omega)]
theorem totF_ok (l : List Nd) (h : Cnt l) (hs : sumL l ≤ 72057594037927935) : totF l = (sumL l, true) := by
  show totGo 0 l = _
  rw [totGo_ok l 0 (by omega) h (by omega), Int.zero_add]

/-- Rising numbers, each of some weight. -/
structure Canon (l : List Nd) : Prop where
  rise : l.Pairwise fun x y => x.1 < y.1
  cnt : ∀ p ∈ l, 0 < p.2
theorem Canon.nil : Canon [] := ⟨List.Pairwise.nil, fun p hp => by cases hp⟩
theorem Canon.cntL {l : List Nd} (h : Canon l) : Cnt l := fun p hp => Int.le_of_lt (h.cnt p hp)
theorem wt_zero (id : Int) : ∀ l : List Nd, (∀ p ∈ l, p.1 ≠ id) → wt id l = 0
  | [], _ => rfl
  | p :: l, h => by rw [wt, if_neg (h p (by simp)), wt_zero id l fun x hx => h x (by simp [hx])]; rfl
theorem wt_nonneg (id : Int) : ∀ l : List Nd, Cnt l → 0 ≤ wt id l
  | [], _ => by simp [wt]
  | p :: l, h => by
    have h1 := h p (by simp)
    have h2 := wt_nonneg id l fun x hx => h x (by simp [hx])
    rw [wt]; split <;> omega
theorem canon_ext : ∀ a b : List Nd, Canon a → Canon b → (∀ id, wt id a = wt id b) → a = b
  | [], [], _, _, _ => rfl
  | [], q :: b, _, hb, h => by
    have h1 := h q.1
    have h2 := hb.cnt q (by simp)
    have h3 := wt_nonneg q.1 b fun x hx => Int.le_of_lt (hb.cnt x (by simp [hx]))
    rw [wt, wt, if_pos rfl] at h1; omega
  | p :: a, [], ha, _, h => by
    have h1 := h p.1
    have h2 := ha.cnt p (by simp)
    have h3 := wt_nonneg p.1 a fun x hx => Int.le_of_lt (ha.cnt x (by simp [hx]))
    rw [wt, wt, if_pos rfl] at h1; omega
  | p :: a, q :: b, ha, hb, h => by
    have ha' := List.pairwise_cons.1 ha.rise
    have hb' := List.pairwise_cons.1 hb.rise
    have hp := ha.cnt p (by simp)
    have hq := hb.cnt q (by simp)
    have hap := wt_zero p.1 a fun x hx => by have := ha'.1 x hx; omega
    have hbq := wt_zero q.1 b fun x hx => by have := hb'.1 x hx; omega
    have e : p.1 = q.1 := by
      rcases Int.lt_trichotomy p.1 q.1 with hlt | he | hlt
      · have h1 := h p.1
        rw [wt, wt, if_pos rfl, if_neg (by omega), hap, wt_zero p.1 b fun x hx => by have := hb'.1 x hx; omega] at h1
        omega
      · exact he
      · have h1 := h q.1
        rw [wt, wt, if_pos rfl, if_neg (by omega), hbq, wt_zero q.1 a fun x hx => by have := ha'.1 x hx; omega] at h1
        omega
    have e2 : p.2 = q.2 := by
      have h1 := h p.1
      rw [← e] at hbq
      rw [wt, wt, if_pos rfl, if_pos e.symm, hap, hbq] at h1
      omega
    have hpq : p = q := Prod.ext e e2
    subst hpq
    rw [canon_ext a b ⟨ha'.2, fun x hx => ha.cnt x (by simp [hx])⟩ ⟨hb'.2, fun x hx => hb.cnt x (by simp [hx])⟩ fun id => by
      have h1 := h id
      rw [wt, wt] at h1
      omega]

theorem lastId_snocP : ∀ (l : List Nd) (q : Nd), lastId (l ++ [q]) = some q.1
  | [], q => rfl
  | [a], q => rfl
  | a :: b :: l, q => by have := lastId_snocP (b :: l) q; simpa [lastId] using this
theorem bump_snocP (n : Int) : ∀ (l : List Nd) (q : Nd), bump n (l ++ [q]) = l ++ [(q.1, wrap64 (q.2 + n))]
  | [], q => rfl
  | [a], q => rfl
  | a :: b :: l, q => by have := bump_snocP n (b :: l) q; simpa [bump] using this
theorem wrap_in (x : Int) (h : -9223372036854775808 ≤ x ∧ x ≤ 9223372036854775807) : wrap64 x = x := by unfold wrap64; omega

theorem sumL_le (l : List Nd) (h : Cnt l) (p : Nd) (hp : p ∈ l) : p.2 ≤ sumL l := by
  induction l with
  | nil => cases hp
  | cons q l ih =>
    have h1 := h q (by simp)
    have h2 : Cnt l := fun x hx => h x (by simp [hx])
    have h3 := sumL_nonneg l h2
    rw [sumL]
    rcases List.mem_cons.1 hp with rfl | hp
    · omega
    · have := ih h2 hp; omega

theorem foldGo_ok : ∀ (r out : List Nd), Canon out → (r.Pairwise fun x y => x.1 ≤ y.1) → (∀ x ∈ out, ∀ y ∈ r, x.1 ≤ y.1) → Cnt r → Ids r → sumL out + sumL r ≤ 72057594037927935 →
    ∃ S, foldGo out r = (S, true) ∧ Canon S ∧ (∀ id, wt id S = wt id out + wt id r) ∧ sumL S = sumL out + sumL r ∧ ∀ p ∈ S, (∃ q ∈ out, q.1 = p.1) ∨ ∃ q ∈ r, q.1 = p.1
  | [], out, hC, _, _, _, _, _ => ⟨out, rfl, hC, fun id => by simp [wt], by simp [sumL], fun p hp => .inl ⟨p, hp, rfl⟩⟩
  | p :: r, out, hC, hs, hor, hc, hi, hm => by
    have hs' := List.pairwise_cons.1 hs
    have hp0 := hc p (by simp)
    have hp1 := hi p (by simp)
    have hcr : Cnt r := fun x hx => hc x (by simp [hx])
    have hir : Ids r := fun x hx => hi x (by simp [hx])
    have hr0 := sumL_nonneg r hcr
    have ho0 := sumL_nonneg out hC.cntL
    rw [sumL] at hm
    rw [foldGo, if_neg (by omega)]
    by_cases h0 : p.2 = 0
    · rw [if_pos h0]
      obtain ⟨S, e, h1, h2, h3, h4⟩ := foldGo_ok r out hC hs'.2 (fun x hx y hy => hor x hx y (by simp [hy])) hcr hir (by omega)
      refine ⟨S, e, h1, fun id => ?_, ?_, fun q hq => ?_⟩
      · rw [h2, wt]; split <;> omega
      · rw [h3, sumL]; omega
      · rcases h4 q hq with h | ⟨x, hx, h⟩
        · exact .inl h
        · exact .inr ⟨x, by simp [hx], h⟩
    · rw [if_neg h0]
      rcases List.eq_nil_or_concat out with rfl | ⟨init, q, rfl⟩
      · rw [if_neg (by simp [lastId])]
        obtain ⟨S, e, h1, h2, h3, h4⟩ := foldGo_ok r [p] ⟨by simp, by simp; omega⟩ hs'.2 (by simpa using hs'.1) hcr hir (by simp [sumL] at *; omega)
        refine ⟨S, e, h1, fun id => ?_, ?_, fun x hx => ?_⟩
        · rw [h2]; simp [wt]
        · rw [h3]; simp [sumL]
        · rcases h4 x hx with ⟨y, hy, h⟩ | ⟨y, hy, h⟩
          · simp at hy; subst hy; exact .inr ⟨y, by simp, h⟩
          · exact .inr ⟨y, by simp [hy], h⟩
      · rw [List.concat_eq_append] at *
        rw [lastId_snocP]
        have hC' := List.pairwise_append.1 hC.rise
        by_cases hq : q.1 = p.1
        · rw [if_pos (by rw [hq]), bump_snocP]
          have hq2 := hC.cnt q (by simp)
          have hql := sumL_le _ hC.cntL q (by simp)
          rw [wrap_in _ (by omega)]
          have hs1 : sumL (init ++ [(q.1, q.2 + p.2)]) = sumL (init ++ [q]) + p.2 := by rw [sumL_append, sumL_append]; simp [sumL]; omega
          obtain ⟨S, e, h1, h2, h3, h4⟩ := foldGo_ok r (init ++ [(q.1, q.2 + p.2)]) ⟨List.pairwise_append.2 ⟨hC'.1, by simp, by simpa using hC'.2.2⟩, fun x hx => by
              rcases List.mem_append.1 hx with hx | hx
              · exact hC.cnt x (by simp [hx])
              · simp at hx; subst hx; simp; omega⟩ hs'.2 (fun x hx y hy => by
              rcases List.mem_append.1 hx with hx | hx
              · exact hor x (by simp [hx]) y (by simp [hy])
              · simp at hx; subst hx; exact hor q (by simp) y (by simp [hy])) hcr hir (by omega)
          refine ⟨S, e, h1, fun id => ?_, ?_, fun x hx => ?_⟩
          · rw [h2, wt_append, wt_append]
            simp only [wt, hq]
            split <;> omega
          · rw [h3, hs1, sumL]; omega
          · rcases h4 x hx with ⟨y, hy, h⟩ | ⟨y, hy, h⟩
            · rcases List.mem_append.1 hy with hy | hy
              · exact .inl ⟨y, by simp [hy], h⟩
              · simp at hy; subst hy; exact .inl ⟨q, by simp, h⟩
            · exact .inr ⟨y, by simp [hy], h⟩
        · rw [if_neg (by simpa using hq)]
          have hqp := hor q (by simp) p (by simp)
          have hall : ∀ x ∈ init ++ [q], x.1 < p.1 := fun x hx => by
            rcases List.mem_append.1 hx with hx | hx
            · have := hC'.2.2 x hx q (by simp); omega
            · simp at hx; subst hx; omega
          have hs1 : sumL (init ++ [q] ++ [p]) = sumL (init ++ [q]) + p.2 := by rw [sumL_append]; simp [sumL]
          obtain ⟨S, e, h1, h2, h3, h4⟩ := foldGo_ok r (init ++ [q] ++ [p]) ⟨List.pairwise_append.2 ⟨hC.rise, by simp, fun x hx y hy => by simp at hy; subst hy; exact hall x hx⟩, fun x hx => by
              rcases List.mem_append.1 hx with hx | hx
              · exact hC.cnt x hx
              · simp at hx; subst hx; omega⟩ hs'.2 (fun x hx y hy => by
              rcases List.mem_append.1 hx with hx | hx
              · exact hor x hx y (by simp [hy])
              · simp at hx; subst hx; exact hs'.1 y hy) hcr hir (by omega)
          refine ⟨S, e, h1, fun id => ?_, ?_, fun x hx => ?_⟩
          · rw [h2, wt_append]; simp only [wt]; omega
          · rw [h3, hs1, sumL]; omega
          · rcases h4 x hx with ⟨y, hy, h⟩ | ⟨y, hy, h⟩
            · rcases List.mem_append.1 hy with hy | hy
              · exact .inl ⟨y, hy, h⟩
              · simp at hy; subst hy; exact .inr ⟨y, by simp, h⟩
            · exact .inr ⟨y, by simp [hy], h⟩

theorem foldGo_bad : ∀ (r out : List Nd), ¬ Ids r → foldGo out r = ([], false)
  | [], out, h => absurd (fun p hp => by cases hp) h
  | p :: r, out, h => by
    rw [foldGo]
    by_cases h1 : p.1 < 1
    · rw [if_pos h1]
    · rw [if_neg h1]
      have hr : ¬ Ids r := fun k => h fun x hx => by
        rcases List.mem_cons.1 hx with rfl | hx
        · omega
        · exact k x hx
      rw [foldGo_bad r out hr, foldGo_bad r _ hr, foldGo_bad r _ hr]
      simp

theorem ins_wt (id : Int) (lt : Nd → Nd → Bool) (x : Nd) : ∀ l : List Nd, wt id (ins lt x l) = wt id (x :: l)
  | [] => rfl
  | y :: l => by
    rw [ins]
    split
    · rfl
    · rw [wt, ins_wt id lt x l]; simp only [wt]; omega
theorem ins_sum (lt : Nd → Nd → Bool) (x : Nd) : ∀ l : List Nd, sumL (ins lt x l) = sumL (x :: l)
  | [] => rfl
  | y :: l => by
    rw [ins]
    split
    · rfl
    · rw [sumL, ins_sum lt x l]; simp only [sumL]; omega
theorem isort_both (lt : Nd → Nd → Bool) (l : List Nd) : (∀ id, wt id (isort lt l) = wt id l) ∧ sumL (isort lt l) = sumL l := by
  have hrec : ∀ k : List Nd, (∀ id, wt id (isort lt k.reverse) = wt id k.reverse) ∧ sumL (isort lt k.reverse) = sumL k.reverse := by
    intro k
    induction k with
    | nil => exact ⟨fun _ => rfl, rfl⟩
    | cons x k ih =>
      rw [List.reverse_cons, isort_snoc]
      refine ⟨fun id => ?_, ?_⟩
      · rw [ins_wt, wt, ih.1 id, wt_append]; simp only [wt]; omega
      · rw [ins_sum, sumL, ih.2, sumL_append]; simp only [sumL]; omega
  have := hrec l.reverse
  rwa [List.reverse_reverse] at this

/-- What is weighed and folded. -/
def Good (l : List Nd) : Prop := Cnt l ∧ sumL l ≤ 72057594037927935 ∧ Ids l
theorem foldF_good (l : List Nd) (h : Good l) : ∃ S, foldF l = (S, true) ∧ Canon S ∧ (∀ id, wt id S = wt id l) ∧ sumL S = sumL l ∧ Ids S ∧ ∀ p ∈ S, ∃ q ∈ l, q.1 = p.1 := by
  obtain ⟨h1, h2, h3⟩ := h
  have hb := isort_both ltS l
  have hmem : ∀ p, p ∈ isort ltS l ↔ p ∈ l := fun p => isort_mem l p
  have hsr : (isort ltS l).Pairwise fun x y => x.1 ≤ y.1 := (isort_srt ordS l).imp fun {x y} h => by simp [ltS] at h; exact h
  have hI : Ids (isort ltS l) := fun p hp => h3 p ((hmem p).1 hp)
  obtain ⟨S, e, k1, k2, k3, k4⟩ := foldGo_ok (isort ltS l) [] Canon.nil hsr (fun x hx => by cases hx) (fun p hp => h1 p ((hmem p).1 hp)) hI (by rw [hb.2]; simpa [sumL] using h2)
  have hin : ∀ p ∈ S, ∃ q ∈ l, q.1 = p.1 := fun p hp => by
    rcases k4 p hp with ⟨q, hq, _⟩ | ⟨q, hq, h⟩
    · cases hq
    · exact ⟨q, (hmem q).1 hq, h⟩
  refine ⟨S, ?_, k1, fun id => ?_, ?_, fun p hp => ?_, hin⟩
  · unfold foldF; rw [if_pos ((totF_iff l).2 ⟨h1, h2⟩), e]
  · rw [k2, hb.1]; simp [wt]
  · rw [k3, hb.2]; simp [sumL]
  · obtain ⟨q, hq, h⟩ := hin p hp
    rw [← h]; exact h3 q hq
/-- Bounds of a folded list. -/
def Bd (l S : List Nd) : Prop := ∀ p ∈ S, (∃ q ∈ l, q.1 = p.1) ∧ 0 < p.2 ∧ p.2 ≤ 72057594037927935
theorem bd_of {l S : List Nd} (hC : Canon S) (hs : sumL S ≤ 72057594037927935) (hin : ∀ p ∈ S, ∃ q ∈ l, q.1 = p.1) : Bd l S := fun p hp =>
  ⟨hin p hp, hC.cnt p hp, by have := sumL_le S hC.cntL p hp; omega⟩
theorem foldF_bad (l : List Nd) (h : ¬ Good l) : foldF l = ([], false) := by
  unfold foldF
  by_cases h1 : (totF l).2 = true
  · rw [if_pos h1]
    have h2 := (totF_iff l).1 h1
    exact foldGo_bad _ _ fun k => h ⟨h2.1, h2.2, fun p hp => k p ((isort_mem l p).2 hp)⟩
  · rw [if_neg h1]

theorem good_append {a b : List Nd} : Good (a ++ b) → Good a ∧ Good b := by
  rintro ⟨h1, h2, h3⟩
  have hc := cnt_append.1 h1
  have hi := ids_append.1 h3
  rw [sumL_append] at h2
  have ha := sumL_nonneg a hc.1
  have hb := sumL_nonneg b hc.2
  exact ⟨⟨hc.1, by omega, hi.1⟩, ⟨hc.2, by omega, hi.2⟩⟩
theorem good_comm {a b : List Nd} (h : Good (a ++ b)) : Good (b ++ a) := by
  obtain ⟨h1, h2, h3⟩ := h
  exact ⟨cnt_append.2 (cnt_append.1 h1).symm, by rw [sumL_append] at *; omega, ids_append.2 (ids_append.1 h3).symm⟩

/-- The order does not matter. -/
theorem join_comm (a b : List Nd) : joinF b a = joinF a b := by
  unfold joinF
  by_cases h : Good (a ++ b)
  · obtain ⟨S, e, k1, k2, _⟩ := foldF_good _ h
    obtain ⟨T, e2, j1, j2, _⟩ := foldF_good _ (good_comm h)
    rw [e, e2, canon_ext T S j1 k1 fun id => by rw [j2, k2, wt_append, wt_append]; omega]
  · rw [foldF_bad _ h, foldF_bad _ fun k => h (good_comm k)]
/-- All that is asked of what is joined. -/
structure Joined (a b s p q : List Nd) : Prop where
  fs : foldF s = (s, true)
  fa : foldF a = (p, true)
  fb : foldF b = (q, true)
  pq : joinF p q = (s, true)
  tp : ∃ m n, totF p = (m, true) ∧ totF q = (n, true) ∧ totF s = (m + n, true) ∧ 0 ≤ m ∧ 0 ≤ n ∧ m + n ≤ 72057594037927935
  bs : Bd (a ++ b) s
  bp : Bd a p
  bq : Bd b q
  canon : Canon s
  ids : Ids s
theorem join_all (a b : List Nd) : joinF a b = ([], false) ∨ ∃ s p q, joinF a b = (s, true) ∧ Joined a b s p q := by
  by_cases h : Good (a ++ b)
  · obtain ⟨ga, gb⟩ := good_append h
    obtain ⟨s, e, k1, k2, k3, k4, k5⟩ := foldF_good _ h
    obtain ⟨p, ep, p1, p2, p3, p4, p5⟩ := foldF_good _ ga
    obtain ⟨q, eq, q1, q2, q3, q4, q5⟩ := foldF_good _ gb
    have gs : Good s := ⟨k1.cntL, by rw [k3]; exact h.2.1, k4⟩
    obtain ⟨s2, e2, j1, j2, _⟩ := foldF_good _ gs
    have gpq : Good (p ++ q) := ⟨cnt_append.2 ⟨p1.cntL, q1.cntL⟩, by rw [sumL_append, p3, q3, ← sumL_append]; exact h.2.1, ids_append.2 ⟨p4, q4⟩⟩
    obtain ⟨s3, e3, i1, i2, _⟩ := foldF_good _ gpq
    refine .inr ⟨s, p, q, e, ?_, ep, eq, ?_, ?_, bd_of k1 (by rw [k3]; exact h.2.1) k5, bd_of p1 (by rw [p3]; exact ga.2.1) p5, bd_of q1 (by rw [q3]; exact gb.2.1) q5, k1, k4⟩
    · rw [e2, canon_ext s2 s j1 k1 j2]
    · show foldF (p ++ q) = _
      rw [e3, canon_ext s3 s i1 k1 fun id => by rw [i2, k2, wt_append, wt_append, p2, q2]]
    · have h2 := h.2.1
      rw [sumL_append] at h2
      refine ⟨_, _, totF_ok p p1.cntL (by rw [p3]; exact ga.2.1), totF_ok q q1.cntL (by rw [q3]; exact gb.2.1), ?_, sumL_nonneg p p1.cntL, sumL_nonneg q q1.cntL, by rw [p3, q3]; exact h2⟩
      rw [totF_ok s k1.cntL (by rw [k3]; exact h.2.1), k3, p3, q3, sumL_append]
  · exact .inl (foldF_bad _ h)

/-- Are all of some numbers nodes? -/
def allR (L : Int) (b : Bool) : List Nd → Bool
  | [] => b
  | p :: l => allR L (b && rightB L p.1) l
theorem allR_false (L : Int) : ∀ l : List Nd, allR L false l = false
  | [] => rfl
  | p :: l => by rw [allR, Bool.false_and]; exact allR_false L l
theorem allR_right (L : Int) : ∀ (l : List Nd) (last : Int) (b : Bool), (l.Pairwise fun x y => x.1 < y.1) → (∀ p ∈ l, last < p.1) → (∀ p ∈ l, 0 < p.2) → allR L b l = (rightGo L last l && b)
  | [], last, b, _, _, _ => by simp [allR, rightGo]
  | p :: l, last, b, hs, hl, hc => by
    have hs' := List.pairwise_cons.1 hs
    have h1 := hl p (by simp)
    have h2 := hc p (by simp)
    rw [allR, rightGo]
    cases hr : rightB L p.1
    · rw [if_pos (by simp), Bool.and_false, allR_false]; rfl
    · rw [if_neg (by simp; omega), Bool.and_true]
      exact allR_right L l p.1 b hs'.2 hs'.1 fun x hx => hc x (by simp [hx])
theorem roll_all (L : Int) (s : List Nd) (m : Int) (h : Canon s) (hi : Ids s) (ht : totF s = (m, true)) : allR L (uniB L) s = rollB L s := by
  unfold rollB
  rw [ht, Bool.true_and]
  exact allR_right L s 0 _ h.rise (fun p hp => by have := hi p hp; omega) h.cnt
end RollM
end Go.Proofs.YtfjgpjgphdiliaaGreat

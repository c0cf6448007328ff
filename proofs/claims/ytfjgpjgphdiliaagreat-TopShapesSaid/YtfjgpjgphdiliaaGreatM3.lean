/- Part 3 of the proof: texts joined by this repo's tools/merge.py (BagM). By the prover of this repo. -/
import Derived.Test.YtfjgpjgphdiliaaGreatM1
import Derived.WalkKit
set_option linter.unusedVariables false
set_option linter.unusedSimpArgs false
/- Plain facts on bags: readings by rising values, each with its weight. No program in sight. By the prover of this repo. -/
namespace Go.Proofs.YtfjgpjgphdiliaaGreat
namespace BagM
open TwigM Go.RowKit

abbrev Rg := Int × Int

/-- What all weigh. -/
def tot : List Rg → Int
  | [] => 0
  | p :: l => p.2 + tot l
/-- A value's weight more. -/
def put (x n : Int) : List Rg → List Rg
  | [] => [(x, n)]
  | p :: l => if p.1 = x then (x, p.2 + n) :: l else if x < p.1 then (x, n) :: p :: l else p :: put x n l
/-- Rising values, each of some weight, not too much in all. -/
structure Ok (l : List Rg) : Prop where
  rise : l.Pairwise fun p q => p.1 < q.1
  pos : ∀ p ∈ l, 1 ≤ p.2
  most : tot l ≤ 72057594037927935
/-- All are values of a universe. -/
def In (L : Int) (l : List Rg) : Prop := ∀ p ∈ l, 0 ≤ p.1 ∧ p.1 < pw L

theorem tot_nonneg : ∀ l : List Rg, (∀ p ∈ l, 1 ≤ p.2) → 0 ≤ tot l
  | [], _ => by simp [tot]
  | p :: l, h => by
    have h1 := h p (by simp)
    have h2 := tot_nonneg l fun x hx => h x (by simp [hx])
    rw [tot]; omega
theorem tot_append : ∀ a b : List Rg, tot (a ++ b) = tot a + tot b
  | [], b => by simp [tot]
  | p :: a, b => by rw [List.cons_append, tot, tot, tot_append a b]; omega
theorem tot_put (x n : Int) : ∀ l : List Rg, tot (put x n l) = tot l + n
  | [] => by simp [put, tot]
  | p :: l => by
    rw [put]
    split
    · simp only [tot]; omega
    · split
      · simp only [tot]; omega
      · rw [tot, tot_put x n l]; simp only [tot]; omega
theorem put_mem (x n : Int) : ∀ (l : List Rg) (q : Rg), q ∈ put x n l → q.1 = x ∨ q ∈ l
  | [], q, h => by simp [put] at h; subst h; exact .inl rfl
  | p :: l, q, h => by
    rw [put] at h
    split at h
    · rcases List.mem_cons.1 h with rfl | h
      · exact .inl rfl
      · exact .inr (by simp [h])
    · split at h
      · rcases List.mem_cons.1 h with rfl | h
        · exact .inl rfl
        · exact .inr h
      · rcases List.mem_cons.1 h with rfl | h
        · exact .inr (by simp)
        · rcases put_mem x n l q h with h | h
          · exact .inl h
          · exact .inr (by simp [h])
theorem put_pos (x n : Int) (hn : 1 ≤ n) : ∀ l : List Rg, (∀ p ∈ l, 1 ≤ p.2) → ∀ q ∈ put x n l, 1 ≤ q.2
  | [], _, q, h => by simp [put] at h; subst h; exact hn
  | p :: l, hl, q, h => by
    have hp := hl p (by simp)
    have hl' : ∀ p ∈ l, 1 ≤ p.2 := fun y hy => hl y (by simp [hy])
    rw [put] at h
    split at h
    · rcases List.mem_cons.1 h with rfl | h
      · show 1 ≤ p.2 + n; omega
      · exact hl' q h
    · split at h
      · rcases List.mem_cons.1 h with rfl | h
        · exact hn
        · exact hl q h
      · rcases List.mem_cons.1 h with rfl | h
        · exact hp
        · exact put_pos x n hn l hl' q h
theorem put_rise (x n : Int) : ∀ l : List Rg, (l.Pairwise fun p q => p.1 < q.1) → (put x n l).Pairwise fun p q => p.1 < q.1
  | [], _ => by simp [put]
  | p :: l, h => by
    have h' := List.pairwise_cons.1 h
    rw [put]
    split
    · rename_i e
      exact List.pairwise_cons.2 ⟨fun q hq => by have := h'.1 q hq; show x < q.1; omega, h'.2⟩
    · split
      · rename_i e1 e2
        refine List.pairwise_cons.2 ⟨fun q hq => ?_, h⟩
        rcases List.mem_cons.1 hq with rfl | hq
        · exact e2
        · have := h'.1 q hq; show x < q.1; omega
      · rename_i e1 e2
        refine List.pairwise_cons.2 ⟨fun q hq => ?_, put_rise x n l h'.2⟩
        rcases put_mem x n l q hq with h3 | h3
        · omega
        · exact h'.1 q h3
theorem Ok.put {l : List Rg} (h : Ok l) (x n : Int) (hn : 1 ≤ n) (hm : n ≤ 72057594037927935 - tot l) : Ok (put x n l) :=
  ⟨put_rise x n l h.rise, put_pos x n hn l h.pos, by rw [tot_put]; omega⟩
theorem Ok.nil : Ok [] := ⟨List.Pairwise.nil, (fun p hp => by cases hp), by simp [tot]⟩
theorem In.nil (L : Int) : In L [] := fun p hp => by cases hp
theorem In.put {L : Int} {l : List Rg} (h : In L l) (x n : Int) (h0 : 0 ≤ x) (h1 : x < pw L) : In L (put x n l) := fun q hq => by
  rcases put_mem x n l q hq with e | e
  · rw [e]; exact ⟨h0, h1⟩
  · exact h q e
theorem put_len (x n : Int) : ∀ l : List Rg, (put x n l).length ≤ l.length + 1
  | [] => by simp [put]
  | p :: l => by
    rw [put]
    split
    · simp
    · split
      · simp
      · have := put_len x n l; simp; omega
theorem len_put (x n : Int) : ∀ l : List Rg, l.length ≤ (put x n l).length
  | [] => by simp [put]
  | p :: l => by
    rw [put]
    split
    · simp
    · split
      · simp
      · have := len_put x n l; simp; omega
theorem tot_le (l : List Rg) (h : ∀ p ∈ l, 1 ≤ p.2) (p : Rg) (hp : p ∈ l) : p.2 ≤ tot l := by
  induction l with
  | nil => cases hp
  | cons q l ih =>
    have h2 : ∀ p ∈ l, 1 ≤ p.2 := fun x hx => h x (by simp [hx])
    have h1 := h q (by simp)
    have h3 := tot_nonneg l h2
    rw [tot]
    rcases List.mem_cons.1 hp with rfl | hp
    · omega
    · have := ih h2 hp; omega

/-- How many values are less than one; how many are at most one. -/
def lo (x : Int) : List Rg → Nat
  | [] => 0
  | p :: l => if x ≤ p.1 then 0 else lo x l + 1
def hi (x : Int) : List Rg → Nat
  | [] => 0
  | p :: l => if x < p.1 then 0 else hi x l + 1
theorem lo_le (x : Int) : ∀ l : List Rg, lo x l ≤ l.length
  | [] => by simp [lo]
  | p :: l => by have := lo_le x l; rw [lo]; split <;> simp <;> omega
theorem hi_le (x : Int) : ∀ l : List Rg, hi x l ≤ l.length
  | [] => by simp [hi]
  | p :: l => by have := hi_le x l; rw [hi]; split <;> simp <;> omega
/-- What is found by halves: the least place at which it holds. -/
theorem lo_spec (x : Int) : ∀ (l : List Rg), (l.Pairwise fun p q => p.1 < q.1) → ∀ i, (h : i < l.length) → (decide (x ≤ l[i].1) = true ↔ lo x l ≤ i)
  | [], _, i, h => by simp at h
  | p :: l, hs, i, h => by
    have h' := List.pairwise_cons.1 hs
    rw [lo, decide_eq_true_eq]
    cases i with
    | zero =>
      rw [List.getElem_cons_zero]
      split <;> omega
    | succ i =>
      have hil : i < l.length := by simpa using h
      rw [List.getElem_cons_succ]
      have h1 := h'.1 l[i] (List.getElem_mem hil)
      have h2 := lo_spec x l h'.2 i hil
      rw [decide_eq_true_eq] at h2
      split
      · omega
      · rw [h2]; omega
theorem hi_spec (x : Int) : ∀ (l : List Rg), (l.Pairwise fun p q => p.1 < q.1) → ∀ i, (h : i < l.length) → (decide (x < l[i].1) = true ↔ hi x l ≤ i)
  | [], _, i, h => by simp at h
  | p :: l, hs, i, h => by
    have h' := List.pairwise_cons.1 hs
    rw [hi, decide_eq_true_eq]
    cases i with
    | zero =>
      rw [List.getElem_cons_zero]
      split <;> omega
    | succ i =>
      have hil : i < l.length := by simpa using h
      rw [List.getElem_cons_succ]
      have h1 := h'.1 l[i] (List.getElem_mem hil)
      have h2 := hi_spec x l h'.2 i hil
      rw [decide_eq_true_eq] at h2
      split
      · omega
      · rw [h2]; omega

/-- Putting, as a place and what is there. -/
theorem put_same (x n : Int) : ∀ (l : List Rg), (h : lo x l < l.length) → l[lo x l].1 = x → put x n l = l.set (lo x l) (x, l[lo x l].2 + n)
  | [], h, _ => by simp at h
  | p :: l, h, e => by
    rw [put]
    by_cases h1 : p.1 = x
    · have h0 : lo x (p :: l) = 0 := by rw [lo, if_pos (by omega)]
      rw [if_pos h1]
      simp [h0]
    · have hx : ¬ x ≤ p.1 := fun k => by
        have h0 : lo x (p :: l) = 0 := by rw [lo, if_pos k]
        simp [h0] at e
        exact h1 e
      have h0 : lo x (p :: l) = lo x l + 1 := by rw [lo, if_neg hx]
      rw [if_neg h1, if_neg (by omega)]
      simp only [h0] at h e ⊢
      rw [List.getElem_cons_succ] at e
      rw [put_same x n l (by simpa using h) e]
      simp
theorem put_new (x n : Int) : ∀ (l : List Rg), (∀ h : lo x l < l.length, l[lo x l].1 ≠ x) → put x n l = l.take (lo x l) ++ (x, n) :: l.drop (lo x l)
  | [], _ => by simp [put, lo]
  | p :: l, e => by
    rw [put]
    by_cases hx : x ≤ p.1
    · have h0 : lo x (p :: l) = 0 := by rw [lo, if_pos hx]
      have h1 : p.1 ≠ x := by
        have := e (by rw [h0]; simp)
        simpa [h0] using this
      rw [if_neg h1, if_pos (by omega), h0]
      simp
    · have h0 : lo x (p :: l) = lo x l + 1 := by rw [lo, if_neg hx]
      rw [if_neg (by omega), if_neg (by omega)]
      rw [put_new x n l fun h => by
        have := e (by rw [h0]; simpa using h)
        simpa [h0] using this]
      simp [h0]

/-- Adding, as the document says. -/
def addF (L : Int) (l : List Rg) (x n : Int) : List Rg × Int :=
  if x < 0 ∨ pw L ≤ x then (l, 3) else if n < 1 then (l, 4) else if 72057594037927935 - tot l < n then (l, 5) else (put x n l, 0)
theorem add_ok {L : Int} {l : List Rg} (h : Ok l) (hi : In L l) (x n : Int) : Ok (addF L l x n).1 ∧ In L (addF L l x n).1 := by
  unfold addF
  split
  · exact ⟨h, hi⟩
  · split
    · exact ⟨h, hi⟩
    · split
      · exact ⟨h, hi⟩
      · exact ⟨h.put x n (by omega) (by omega), hi.put x n (by omega) (by omega)⟩
theorem add_len (L : Int) (l : List Rg) (x n : Int) : (addF L l x n).1.length ≤ l.length + 1 := by
  unfold addF
  split
  · simp
  · split
    · simp
    · split
      · simp
      · exact put_len x n l
/-- All that may be added, one behind the other. -/
def addAll (L : Int) (l : List Rg) : List Rg → List Rg
  | [] => l
  | p :: r => addAll L (addF L l p.1 p.2).1 r
def ofF (L : Int) (r : List Rg) : List Rg := addAll L [] r
theorem addAll_ok {L : Int} : ∀ (r l : List Rg), Ok l → In L l → Ok (addAll L l r) ∧ In L (addAll L l r)
  | [], _, h, hi => ⟨h, hi⟩
  | p :: r, l, h, hi => by
    have := add_ok h hi p.1 p.2
    exact addAll_ok r _ this.1 this.2
theorem addAll_len {L : Int} : ∀ (r l : List Rg), (addAll L l r).length ≤ l.length + r.length
  | [], l => by simp [addAll]
  | p :: r, l => by
    have h1 := addAll_len (L := L) r (addF L l p.1 p.2).1
    have h2 := add_len L l p.1 p.2
    rw [addAll]; simp; omega
theorem of_ok (L : Int) (r : List Rg) : Ok (ofF L r) ∧ In L (ofF L r) := addAll_ok r [] Ok.nil (In.nil L)
theorem of_len (L : Int) (r : List Rg) : (ofF L r).length ≤ r.length := by have := addAll_len (L := L) r []; simpa [ofF] using this

/-- What values from x to y weigh. -/
def bet (x y : Int) : List Rg → Int
  | [] => 0
  | p :: l => (if x ≤ p.1 ∧ p.1 ≤ y then p.2 else 0) + bet x y l
/-- What those from a place on, up to another one, weigh. -/
def seg (l : List Rg) (a b : Nat) : Int := tot ((l.take b).drop a)
theorem bet_zero (x y : Int) : ∀ l : List Rg, (∀ p ∈ l, ¬ (x ≤ p.1 ∧ p.1 ≤ y)) → bet x y l = 0
  | [], _ => rfl
  | p :: l, h => by rw [bet, if_neg (h p (by simp)), bet_zero x y l fun q hq => h q (by simp [hq])]; rfl
theorem bet_seg (x y : Int) : ∀ l : List Rg, (l.Pairwise fun p q => p.1 < q.1) → bet x y l = seg l (lo x l) (hi y l)
  | [], _ => rfl
  | p :: l, hs => by
    have h' := List.pairwise_cons.1 hs
    have ih := bet_seg x y l h'.2
    unfold seg at ih ⊢
    rw [bet, lo, hi]
    by_cases hy : y < p.1
    · rw [if_neg (by omega), if_pos hy, bet_zero x y l fun q hq => by have := h'.1 q hq; omega]
      simp [tot]
    · rw [if_neg hy]
      by_cases hx : x ≤ p.1
      · rw [if_pos ⟨hx, by omega⟩, if_pos hx]
        have h0 : lo x l = 0 := by
          cases l with
          | nil => rfl
          | cons q l => have := h'.1 q (by simp); rw [lo, if_pos (by omega)]
        rw [ih, h0]
        simp [tot]
      · rw [if_neg (by omega), if_neg hx, ih]
        simp
theorem bet_nonneg (x y : Int) : ∀ l : List Rg, (∀ p ∈ l, 1 ≤ p.2) → 0 ≤ bet x y l
  | [], _ => by simp [bet]
  | p :: l, h => by
    have h1 := h p (by simp)
    have h2 := bet_nonneg x y l fun q hq => h q (by simp [hq])
    rw [bet]; split <;> omega
theorem bet_le (x y : Int) : ∀ l : List Rg, (∀ p ∈ l, 1 ≤ p.2) → bet x y l ≤ tot l
  | [], _ => by simp [bet, tot]
  | p :: l, h => by
    have h1 := h p (by simp)
    have h2 := bet_le x y l fun q hq => h q (by simp [hq])
    rw [bet, tot]; split <;> omega
/-- The rank of a number: what all values up to it weigh. -/
def rank (x : Int) (l : List Rg) : Int := bet 0 x l
theorem rank_seg (x : Int) {L : Int} (l : List Rg) (hs : l.Pairwise fun p q => p.1 < q.1) (hi0 : In L l) : seg l 0 (hi x l) = rank x l := by
  unfold rank
  rw [bet_seg 0 x l hs]
  congr 1
  cases l with
  | nil => rfl
  | cons p l => have := (hi0 p (by simp)).1; rw [lo, if_pos this]

/-- The value of a rank. -/
def kthGo (r : Int) : List Rg → Int
  | [] => 0
  | p :: l => if r ≤ p.2 then p.1 else kthGo (r - p.2) l
def kthF (l : List Rg) (r : Int) : Int × Int := if l = [] then (0, 7) else if r < 1 ∨ tot l < r then (0, 2) else (kthGo r l, 0)

/-- One bag to which another one comes. -/
def putAll (l : List Rg) : List Rg → List Rg
  | [] => l
  | p :: r => putAll (put p.1 p.2 l) r
theorem tot_putAll : ∀ (r l : List Rg), tot (putAll l r) = tot l + tot r
  | [], l => by simp [putAll, tot]
  | p :: r, l => by rw [putAll, tot_putAll r, tot_put, tot]; omega
theorem putAll_ok : ∀ (r l : List Rg), Ok l → (∀ p ∈ r, 1 ≤ p.2) → tot l + tot r ≤ 72057594037927935 → Ok (putAll l r)
  | [], _, h, _, _ => h
  | p :: r, l, h, hp, hm => by
    have h1 := hp p (by simp)
    have h2 := tot_nonneg r fun q hq => hp q (by simp [hq])
    rw [tot] at hm
    exact putAll_ok r _ (h.put p.1 p.2 h1 (by omega)) (fun q hq => hp q (by simp [hq])) (by rw [tot_put]; omega)
theorem putAll_in {L : Int} : ∀ (r l : List Rg), In L l → In L r → In L (putAll l r)
  | [], _, h, _ => h
  | p :: r, l, h, hr => by
    have := hr p (by simp)
    exact putAll_in r _ (h.put p.1 p.2 this.1 this.2) fun q hq => hr q (by simp [hq])
theorem putAll_len : ∀ (r l : List Rg), (putAll l r).length ≤ l.length + r.length
  | [], l => by simp [putAll]
  | p :: r, l => by
    have h1 := putAll_len r (put p.1 p.2 l)
    have h2 := put_len p.1 p.2 l
    rw [putAll]; simp; omega
def pourF (L M : Int) (l r : List Rg) : List Rg × Int := if ¬ L = M then (l, 6) else if 72057594037927935 - tot l < tot r then (l, 5) else (putAll l r, 0)
/-- All values without their last bits. -/
def cut (k : Int) (r : List Rg) : List Rg := r.map fun p => (p.1 / pw k, p.2)
theorem tot_cut (k : Int) : ∀ r : List Rg, tot (cut k r) = tot r
  | [] => rfl
  | p :: r => by have := tot_cut k r; unfold cut at this ⊢; rw [List.map_cons, tot, tot, this]
def imageF (k : Int) (r : List Rg) : List Rg := putAll [] (cut k r)
end BagM
end Go.Proofs.YtfjgpjgphdiliaaGreat

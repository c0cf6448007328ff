/- Plain facts on bags, on: putting one by one; the rank of a value; the value of a rank. No program in sight. By the prover of this repo. -/
import Derived.Test.YtkjihbaiofocgaaBagM
namespace Go.Proofs.Ytkjihbaiofocgaa
namespace BagM
open TwigM Go.RowKit

/-- A value's weight more, gone through once. -/
def putR (x n : Int) (done : Bool) : List Rg → List Rg
  | [] => if done = true then [] else [(x, n)]
  | p :: l => if p.1 = x then (p.1, p.2 + n) :: putR x n true l else if x < p.1 ∧ done = false then (x, n) :: p :: putR x n true l else p :: putR x n done l
theorem putR_done (x n : Int) : ∀ l : List Rg, (∀ p ∈ l, x < p.1) → putR x n true l = l
  | [], _ => rfl
  | p :: l, h => by
    have h1 := h p (by simp)
    rw [putR, if_neg (by omega), if_neg (by simp), putR_done x n l fun q hq => h q (by simp [hq])]
theorem putR_put (x n : Int) : ∀ l : List Rg, (l.Pairwise fun p q => p.1 < q.1) → putR x n false l = put x n l
  | [], _ => rfl
  | p :: l, h => by
    have h' := List.pairwise_cons.1 h
    rw [putR, put]
    by_cases h1 : p.1 = x
    · rw [if_pos h1, if_pos h1, putR_done x n l fun q hq => by have := h'.1 q hq; omega, h1]
    · rw [if_neg h1, if_neg h1]
      by_cases h2 : x < p.1
      · rw [if_pos ⟨h2, rfl⟩, if_pos h2, putR_done x n l fun q hq => by have := h'.1 q hq; omega]
      · rw [if_neg (fun k => h2 k.1), if_neg h2, putR_put x n l h'.2]

theorem bet_take (x y : Int) : ∀ l : List Rg, (l.Pairwise fun p q => p.1 < q.1) → (∀ p ∈ l, x ≤ p.1) → ∀ i, (h : i < l.length) → l[i].1 = y → bet x y l = tot (l.take (i + 1))
  | [], _, _, i, h, _ => by simp at h
  | p :: l, hs, hx, 0, _, e => by
    have h' := List.pairwise_cons.1 hs
    simp only [List.getElem_cons_zero] at e
    rw [bet, if_pos ⟨hx p (by simp), by omega⟩, bet_zero x y l fun q hq => by have := h'.1 q hq; omega]
    simp [tot]
  | p :: l, hs, hx, i + 1, h, e => by
    have h' := List.pairwise_cons.1 hs
    simp only [List.getElem_cons_succ] at e
    have hil : i < l.length := by simpa using h
    have hlt := h'.1 l[i] (List.getElem_mem hil)
    rw [bet, if_pos ⟨hx p (by simp), by omega⟩, bet_take x y l h'.2 (fun q hq => hx q (by simp [hq])) i hil e, List.take_succ_cons, tot]
theorem rank_at {L : Int} (l : List Rg) (hs : l.Pairwise fun p q => p.1 < q.1) (hi0 : In L l) (i : Nat) (h : i < l.length) : rank l[i].1 l = tot (l.take (i + 1)) :=
  bet_take 0 _ l hs (fun p hp => (hi0 p hp).1) i h rfl
theorem kth_spec : ∀ (l : List Rg) (r : Int) (i : Nat), (∀ p ∈ l, 1 ≤ p.2) → (h : i < l.length) → tot (l.take i) < r → r ≤ tot (l.take (i + 1)) → kthGo r l = l[i].1
  | [], r, i, _, h, _, _ => by simp at h
  | p :: l, r, 0, _, _, _, h2 => by
    simp [tot] at h2
    rw [kthGo, if_pos h2]
    rfl
  | p :: l, r, i + 1, hp, h, h1, h2 => by
    have hpl : ∀ q ∈ l, 1 ≤ q.2 := fun q hq => hp q (by simp [hq])
    have h3 := tot_nonneg (l.take i) fun q hq => hpl q (List.mem_of_mem_take hq)
    rw [List.take_succ_cons, tot] at h1 h2
    rw [kthGo, if_neg (by omega), List.getElem_cons_succ]
    exact kth_spec l (r - p.2) i hpl (by simpa using h) (by omega) (by omega)
end BagM
end Go.Proofs.Ytkjihbaiofocgaa

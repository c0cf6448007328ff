/- Plain facts on bags, on: ranks never fall; what is between; the value of a rank; ranks of what is poured, and of an image. No program in sight. By the prover of this repo. -/
import Derived.Test.YtkjihbaiofocgaaBagN
namespace Go.Proofs.Ytkjihbaiofocgaa
namespace BagM
open TwigM Go.RowKit

theorem bet_put (x y a n : Int) : ∀ l : List Rg, bet x y (put a n l) = bet x y l + if x ≤ a ∧ a ≤ y then n else 0
  | [] => by simp [put, bet]
  | p :: l => by
    rw [put]
    by_cases h1 : p.1 = a
    · rw [if_pos h1, bet, bet, h1]
      simp only
      by_cases h2 : x ≤ a ∧ a ≤ y
      · rw [if_pos h2, if_pos h2, if_pos h2]; omega
      · rw [if_neg h2, if_neg h2, if_neg h2]; omega
    · rw [if_neg h1]
      by_cases h3 : a < p.1
      · rw [if_pos h3, bet]; simp only; omega
      · rw [if_neg h3, bet, bet_put x y a n l, bet]; omega
theorem bet_putAll (x y : Int) : ∀ (r l : List Rg), bet x y (putAll l r) = bet x y l + bet x y r
  | [], l => by simp [putAll, bet]
  | p :: r, l => by rw [putAll, bet_putAll x y r, bet_put, bet]; omega
theorem rank_pour (x : Int) (l r : List Rg) : rank x (putAll l r) = rank x l + rank x r := bet_putAll 0 x r l
theorem bet_split (x y : Int) (h : x ≤ y) : ∀ l : List Rg, (∀ p ∈ l, 0 ≤ p.1) → bet x y l = rank y l - rank (x - 1) l
  | [], _ => rfl
  | p :: l, hl => by
    have h0 := hl p (by simp)
    have ih := bet_split x y h l fun q hq => hl q (by simp [hq])
    unfold rank at *
    rw [bet, bet, bet, ih]
    by_cases h1 : p.1 ≤ x - 1
    · rw [if_neg (by omega), if_pos (by omega), if_pos (by omega)]; omega
    · by_cases h2 : p.1 ≤ y
      · rw [if_pos (by omega), if_pos (by omega), if_neg (by omega)]; omega
      · rw [if_neg (by omega), if_neg (by omega), if_neg (by omega)]; omega
theorem rank_mono (x y : Int) (h : x ≤ y) : ∀ l : List Rg, (∀ p ∈ l, 1 ≤ p.2) → rank x l ≤ rank y l
  | [], _ => Int.le_refl _
  | p :: l, hl => by
    have h0 := hl p (by simp)
    have ih := rank_mono x y h l fun q hq => hl q (by simp [hq])
    unfold rank at *
    rw [bet, bet]
    by_cases h1 : 0 ≤ p.1 ∧ p.1 ≤ x
    · rw [if_pos h1, if_pos (by omega)]; omega
    · rw [if_neg h1]; split <;> omega
/-- Where the value of a rank lies. -/
theorem kth_place : ∀ (l : List Rg) (r : Int), (∀ p ∈ l, 1 ≤ p.2) → 1 ≤ r → r ≤ tot l → ∃ i, ∃ h : i < l.length, tot (l.take i) < r ∧ r ≤ tot (l.take (i + 1)) ∧ kthGo r l = l[i].1
  | [], r, _, h1, h2 => by simp [tot] at h2; omega
  | p :: l, r, hl, h1, h2 => by
    rw [tot] at h2
    by_cases hp : r ≤ p.2
    · exact ⟨0, by simp, by simp [tot]; omega, by simp [tot]; exact hp, by rw [kthGo, if_pos hp]; rfl⟩
    · obtain ⟨i, h, g1, g2, g3⟩ := kth_place l (r - p.2) (fun q hq => hl q (by simp [hq])) (by omega) (by omega)
      exact ⟨i + 1, by simp; exact h, by rw [List.take_succ_cons, tot]; omega, by rw [List.take_succ_cons, tot]; omega, by rw [kthGo, if_neg hp, g3]; simp⟩
theorem bet_before (x y : Int) : ∀ l : List Rg, (l.Pairwise fun p q => p.1 < q.1) → (∀ p ∈ l, x ≤ p.1) → ∀ i, (h : i < l.length) → l[i].1 - 1 = y → bet x y l = tot (l.take i)
  | [], _, _, i, h, _ => by simp at h
  | p :: l, hs, hx, 0, _, e => by
    have h' := List.pairwise_cons.1 hs
    simp only [List.getElem_cons_zero] at e
    rw [bet, if_neg (by omega), bet_zero x y l fun q hq => by have := h'.1 q hq; omega]
    simp [tot]
  | p :: l, hs, hx, i + 1, h, e => by
    have h' := List.pairwise_cons.1 hs
    simp only [List.getElem_cons_succ] at e
    have hil : i < l.length := by simpa using h
    have hlt := h'.1 l[i] (List.getElem_mem hil)
    rw [bet, if_pos ⟨hx p (by simp), by omega⟩, bet_before x y l h'.2 (fun q hq => hx q (by simp [hq])) i hil e, List.take_succ_cons, tot]
/-- The value of a rank is the least one of that rank. -/
theorem kth_rank {L : Int} (l : List Rg) (r : Int) (ho : Ok l) (hi0 : In L l) (h : (kthF l r).2 = 0) : r ≤ rank (kthF l r).1 l ∧ rank ((kthF l r).1 - 1) l < r := by
  unfold kthF at h ⊢
  by_cases h0 : l = []
  · rw [if_pos h0] at h; simp at h
  · rw [if_neg h0] at h ⊢
    by_cases h1 : r < 1 ∨ tot l < r
    · rw [if_pos h1] at h; simp at h
    · rw [if_neg h1]
      obtain ⟨i, hi1, g1, g2, g3⟩ := kth_place l r ho.pos (by omega) (by omega)
      simp only
      rw [g3, rank_at l ho.rise hi0 i hi1]
      refine ⟨g2, ?_⟩
      have : rank (l[i].1 - 1) l = tot (l.take i) := bet_before 0 _ l ho.rise (fun p hp => (hi0 p hp).1) i hi1 rfl
      omega
theorem kth_bound {L : Int} (l : List Rg) (r : Int) (hi0 : In L l) (ho : Ok l) (hL : L ≤ 48) : 0 ≤ (kthF l r).1 ∧ (kthF l r).1 ≤ 281474976710656 := by
  have hp := pw_le48 hL
  unfold kthF
  split
  · simp
  · split
    · simp
    · rename_i h0 h1
      obtain ⟨i, hi1, g1, g2, g3⟩ := kth_place l r ho.pos (by omega) (by omega)
      simp only
      rw [g3]
      have := hi0 l[i] (List.getElem_mem hi1)
      omega
/-- An image's ranks. -/
theorem rank_image {L : Int} (k v : Int) (hk : 0 ≤ k) (hv : 0 ≤ v) (r : List Rg) (hi0 : In L r) : rank v (imageF k r) = rank ((v + 1) * pw k - 1) r := by
  unfold imageF rank
  rw [bet_putAll]
  have hp := pw_pos k
  have key : ∀ r : List Rg, (∀ p ∈ r, 0 ≤ p.1) → bet 0 v (cut k r) = bet 0 ((v + 1) * pw k - 1) r := by
    intro r
    induction r with
    | nil => intro _; rfl
    | cons p r ih =>
      intro hr
      have h0 := hr p (by simp)
      have e : cut k (p :: r) = (p.1 / pw k, p.2) :: cut k r := rfl
      rw [e, bet, bet, ih fun q hq => hr q (by simp [hq])]
      have hiff : (0 ≤ p.1 / pw k ∧ p.1 / pw k ≤ v) ↔ (0 ≤ p.1 ∧ p.1 ≤ (v + 1) * pw k - 1) := by
        have h1 := Int.ediv_nonneg h0 (show 0 ≤ pw k by omega)
        have h2 : p.1 / pw k < v + 1 ↔ p.1 < (v + 1) * pw k := Int.ediv_lt_iff_lt_mul (by omega)
        constructor
        · intro h; exact ⟨h0, by have := h2.1 (by omega); omega⟩
        · intro h; exact ⟨h1, by have := h2.2 (by omega); omega⟩
      simp only [hiff]
  rw [key r fun p hp => (hi0 p hp).1]
  simp [bet]
theorem image_in {k L : Int} (hk : 0 ≤ k) (hkL : k ≤ L) (r : List Rg) (h : In L r) : In (L - k) (imageF k r) := by
  refine putAll_in _ _ (In.nil _) fun q hq => ?_
  obtain ⟨p, hp, rfl⟩ := List.mem_map.1 hq
  obtain ⟨h0, h1⟩ := h p hp
  have hpw := pw_pos k
  refine ⟨Int.ediv_nonneg h0 (by omega), ?_⟩
  refine (Int.ediv_lt_iff_lt_mul (by omega)).2 ?_
  have e := pw_add (a := L - k) (b := k) (by omega) hk
  rw [show L - k + k = L by omega] at e
  show p.1 < pw (L - k) * pw k
  omega
theorem prod_in {k L v : Int} (hk : 0 ≤ k) (hkL : k ≤ L) (hL : L ≤ 48) (h0 : 0 ≤ v) (h1 : v < pw (L - k)) : 1 ≤ (v + 1) * pw k ∧ (v + 1) * pw k ≤ 281474976710656 := by
  have hpw := pw_pos k
  have e := pw_add (a := L - k) (b := k) (by omega) hk
  rw [show L - k + k = L by omega] at e
  have h48 := pw_le48 hL
  have a1 : (v + 1) * pw k ≤ pw (L - k) * pw k := Int.mul_le_mul_of_nonneg_right (by omega) (by omega)
  have a2 : 1 * pw k ≤ (v + 1) * pw k := Int.mul_le_mul_of_nonneg_right (by omega) (by omega)
  omega
theorem tot_image (k : Int) (r : List Rg) : tot (imageF k r) = tot r := by
  unfold imageF; rw [tot_putAll, tot_cut]; simp [tot]
theorem pour_in {L M : Int} {l r : List Rg} (hl : In L l) (hr : In L r) : In L (pourF L M l r).1 := by
  unfold pourF
  split
  · exact hl
  · split
    · exact hl
    · exact putAll_in r l hl hr
theorem pour_rank {L : Int} (x : Int) (l r : List Rg) (h : (pourF L L l r).2 = 0) : rank x (pourF L L l r).1 = rank x l + rank x r := by
  unfold pourF at h ⊢
  rw [if_neg (by simp)] at h ⊢
  by_cases h1 : 72057594037927935 - tot l < tot r
  · rw [if_pos h1] at h; simp at h
  · rw [if_neg h1]; exact rank_pour x l r
end BagM
end Go.Proofs.Ytkjihbaiofocgaa

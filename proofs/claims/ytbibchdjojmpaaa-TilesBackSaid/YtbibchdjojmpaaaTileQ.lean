/- Plain facts on tiles, on: a run's tiles make no pair, and are in order. No program in sight. By the prover of this repo. -/
import Derived.Test.YtbibchdjojmpaaaTileP
namespace Go.Proofs.Ytbibchdjojmpaaa
namespace TileM
open TwigM

theorem Row.no_pair {L b x t s : Int} {r : List Int} (h : Row L b x (t :: s :: r)) : ¬ s = xor1 t := fun k => by
  have hp := h.pair
  obtain ⟨n1, e1, _, _, n2, e2, _⟩ := h
  unfold xor1 at k
  by_cases h2 : t % 2 = 0
  · rw [if_pos h2] at k; exact hp ⟨h2, k⟩
  · rw [if_neg h2] at k
    subst k
    obtain ⟨q, _, _⟩ := pair_next n2 (by omega)
    rw [show t - 1 + 1 = t by omega] at q
    have := lo_le_hi n1
    have := lo_le_hi n2
    omega
theorem Apart.adj {L : Int} : ∀ (r : List Int), Apart L r → adj L r = true
  | [], _ => rfl
  | [t], _ => rfl
  | t :: s :: r, h => by
    obtain ⟨h1, h2⟩ := List.pairwise_cons.1 h
    rw [TileM.adj, decide_eq_true (h1 s (by simp)), Apart.adj (s :: r) h2]; rfl
theorem all_right {L : Int} (hL1 : 1 ≤ L) (hL2 : L ≤ 48) {r : List Int} (h : ∀ t ∈ r, Nd L t) : allB L r = true := by
  unfold allB
  rw [decide_eq_true ⟨hL1, hL2⟩, Bool.and_true, List.all_eq_true]
  exact fun t ht => right_iff.2 ⟨(h t ht).l1, (h t ht).l2, (h t ht).a, (h t ht).b⟩
theorem nd_of_all {L : Int} {r : List Int} (h : allB L r = true) : 1 ≤ L ∧ L ≤ 48 ∧ ∀ t ∈ r, Nd L t := by
  unfold allB at h
  rw [Bool.and_eq_true, List.all_eq_true, decide_eq_true_eq] at h
  exact ⟨h.2.1, h.2.2, fun t ht => by have := right_iff.1 (h.1 t ht); exact ⟨this.1, this.2.1, this.2.2.1, this.2.2.2⟩⟩
/-- A value is held by one of some nodes: as the program asks. -/
theorem holds_iff {L x : Int} (hx : 0 ≤ x ∧ x < pw L) {ids : List Int} (hL1 : 1 ≤ L) (hL2 : L ≤ 48) (h : ∀ t ∈ ids, Nd L t) : ids.any (fun t => aboveB t (pw L + x)) = true ↔ Cov L ids x := by
  have hn := Nd.leaf hL1 hL2 hx.1 hx.2
  obtain ⟨e1, e2⟩ := leaf_ends hL1 hL2 hx.1 hx.2
  rw [List.any_eq_true]
  constructor
  · rintro ⟨t, ht, k⟩
    have := (above_holds (h t ht) hn).1 k
    exact ⟨t, ht, by omega, by omega⟩
  · rintro ⟨t, ht, k1, k2⟩
    exact ⟨t, ht, (above_holds (h t ht) hn).2 ⟨by omega, by omega⟩⟩
end TileM
end Go.Proofs.Ytbibchdjojmpaaa

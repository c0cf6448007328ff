/- Plain facts on tiles, on: what the laws say of joined nodes, of the rest, of values held, of nodes in order. No program in sight. By the prover of this repo. -/
import Derived.Test.YtbibchdjojmpaaaTileK
namespace Go.Proofs.Ytbibchdjojmpaaa
namespace TileM
open TwigM

/-- Nodes as runs. -/
def runsOf (L : Int) (T : List Int) : List Run := T.map fun t => (lo L t, hi L t)
theorem covR_runsOf {L y : Int} {T : List Int} : CovR (runsOf L T) y ↔ Cov L T y := by
  constructor
  · rintro ⟨r, hr, h⟩
    obtain ⟨t, ht, rfl⟩ := List.mem_map.1 hr
    exact ⟨t, ht, h⟩
  · rintro ⟨t, ht, h⟩
    exact ⟨_, List.mem_map.2 ⟨t, ht, rfl⟩, h⟩
theorem runsOf_from {L : Int} : ∀ (T : List Int) (x : Int), (∀ t ∈ T, Nd L t) → Apart L T → 0 ≤ x → x ≤ pw L → (∀ t ∈ T, x ≤ lo L t) → From L x (runsOf L T)
  | [], _, _, _, h0, h1, _ => ⟨h0, h1⟩
  | t :: T, x, hN, ha, h0, h1, hx => by
    obtain ⟨a1, a2⟩ := List.pairwise_cons.1 ha
    have hn := hN t (by simp)
    have hl := lo_le_hi hn
    have hr := node_range hn
    have hxt := hx t (by simp)
    exact ⟨h0, hxt, hl, runsOf_from T _ (fun s hs => hN s (by simp [hs])) a2 (by show 0 ≤ hi L t + 1; omega) (by show hi L t + 1 ≤ pw L; omega) fun s hs => by have := a1 s hs; show hi L t + 1 ≤ lo L s; omega⟩
theorem runs_from {L : Int} : ∀ (l : List Run) (x : Int), RunsOk l → InR L l → 0 ≤ x → x ≤ pw L → (∀ r ∈ l, x ≤ r.1) → From L x l
  | [], _, _, _, h0, h1, _ => ⟨h0, h1⟩
  | r :: l, x, h, hi0, h0, h1, hx => by
    obtain ⟨a1, a2⟩ := List.pairwise_cons.1 h.rise
    have hl := h.le r (by simp)
    have hr := hi0 r (by simp)
    have hxr := hx r (by simp)
    exact ⟨h0, hxr, hl, runs_from l _ ⟨a2, fun s hs => h.le s (by simp [hs])⟩ (fun s hs => hi0 s (by simp [hs])) (by omega) (by omega) fun s hs => by have := a1 s hs; omega⟩
theorem cov_in {L x : Int} {T : List Int} (hN : ∀ t ∈ T, Nd L t) (h : Cov L T x) : 0 ≤ x ∧ x < pw L := by
  obtain ⟨t, ht, h1, h2⟩ := h
  have := node_range (hN t ht)
  omega
/-- What the document's answer says of nodes joined. -/
def joinR (L : Int) (ids : List Int) : List Int := layR L (runsGo L [] ids)
def restT (L : Int) (ids : List Int) : List Int := layR L (restR L 0 (runsGo L [] ids))
section
variable {L : Int} {ids : List Int}
theorem runs_nil : RunsOk [] := ⟨List.Pairwise.nil, fun r hr => by cases hr⟩
theorem runs_ok (hN : ∀ t ∈ ids, Nd L t) : RunsOk (runsGo L [] ids) ∧ (∀ y, CovR (runsGo L [] ids) y ↔ Cov L ids y) ∧ InR L (runsGo L [] ids) := by
  obtain ⟨h1, h2⟩ := runsGo_spec ids [] hN runs_nil
  have h3 : ∀ y, CovR (runsGo L [] ids) y ↔ Cov L ids y := fun y => by
    rw [h2 y]
    constructor
    · rintro (h | h)
      · exact absurd h covR_nil
      · exact h
    · exact fun h => .inr h
  refine ⟨h1, h3, fun r hr => ?_⟩
  have hle := h1.le r hr
  have a1 := cov_in hN ((h3 r.1).1 ⟨r, hr, Int.le_refl _, hle⟩)
  have a2 := cov_in hN ((h3 r.2).1 ⟨r, hr, hle, Int.le_refl _⟩)
  omega
theorem joinR_canon (hL1 : 1 ≤ L) (hL2 : L ≤ 48) (hN : ∀ t ∈ ids, Nd L t) : Canon L (Cov L ids) (joinR L ids) := by
  obtain ⟨h1, h2, h3⟩ := runs_ok hN
  exact (layR_canon hL1 hL2 _ h1 h3).congr h2
theorem join_eq {ids' : List Int} (hL1 : 1 ≤ L) (hL2 : L ≤ 48) (hN : ∀ t ∈ ids, Nd L t) (hm : ∀ t, t ∈ ids' ↔ t ∈ ids) (hb : ids'.Pairwise (Before L)) : (joinGo [] ids').reverse = joinR L ids := by
  have k := join_canon ids' (fun t ht => hN t ((hm t).1 ht)) hb
  refine (k.congr fun x => ?_).unique (joinR_canon hL1 hL2 hN)
  constructor
  · rintro ⟨t, ht, h⟩; exact ⟨t, (hm t).1 ht, h⟩
  · rintro ⟨t, ht, h⟩; exact ⟨t, (hm t).2 ht, h⟩
theorem joinR_congr {ids' : List Int} (hL1 : 1 ≤ L) (hL2 : L ≤ 48) (hN : ∀ t ∈ ids, Nd L t) (hN' : ∀ t ∈ ids', Nd L t) (hc : ∀ x, Cov L ids x ↔ Cov L ids' x) : joinR L ids = joinR L ids' :=
  ((joinR_canon hL1 hL2 hN).congr hc).unique (joinR_canon hL1 hL2 hN')
theorem joinR_again (hL1 : 1 ≤ L) (hL2 : L ≤ 48) (hN : ∀ t ∈ ids, Nd L t) : joinR L (joinR L ids) = joinR L ids := by
  have k := joinR_canon hL1 hL2 hN
  exact joinR_congr hL1 hL2 k.nd hN k.cov
theorem restR_facts (l : List Run) (h : From L 0 l) : RunsOk (restR L 0 l) ∧ InR L (restR L 0 l) ∧ (∀ y, CovR (restR L 0 l) y ↔ 0 ≤ y ∧ y < pw L ∧ ¬ CovR l y) ∧ ((restR L 0 l).map fun r => r.2 - r.1 + 1).sum + (l.map fun r => r.2 - r.1 + 1).sum = pw L := by
  obtain ⟨h1, h2, _, h4, h5⟩ := rest_spec l 0 h
  exact ⟨h1, h2, h4, by omega⟩
theorem restT_canon (hL1 : 1 ≤ L) (hL2 : L ≤ 48) (hN : ∀ t ∈ ids, Nd L t) : Canon L (fun x => 0 ≤ x ∧ x < pw L ∧ ¬ Cov L ids x) (restT L ids) := by
  obtain ⟨h1, h2, h3⟩ := runs_ok hN
  have hp := pw_pos L
  obtain ⟨r1, r2, r3, _⟩ := restR_facts (L := L) _ (runs_from _ 0 h1 h3 (Int.le_refl _) (by omega) fun r hr => (h3 r hr).1)
  refine (layR_canon hL1 hL2 _ r1 r2).congr fun x => ?_
  rw [r3 x, h2 x]
/-- The rest of joined nodes, tile by tile. -/
theorem rest_eq (hL1 : 1 ≤ L) (hL2 : L ≤ 48) (hN : ∀ t ∈ ids, Nd L t) : layR L (restR L 0 (runsOf L (joinR L ids))) = restT L ids := by
  have k := joinR_canon hL1 hL2 hN
  have hp := pw_pos L
  obtain ⟨r1, r2, r3, _⟩ := restR_facts (L := L) _ (runsOf_from _ 0 k.nd k.apart (Int.le_refl _) (by omega) fun t ht => lo_nonneg (k.nd t ht))
  refine ((layR_canon hL1 hL2 _ r1 r2).congr fun x => ?_).unique (restT_canon hL1 hL2 hN)
  rw [r3 x, covR_runsOf, k.cov x]
theorem rest_rest (hL1 : 1 ≤ L) (hL2 : L ≤ 48) (hN : ∀ t ∈ ids, Nd L t) : restT L (restT L ids) = joinR L ids := by
  have k := restT_canon hL1 hL2 hN
  refine ((restT_canon hL1 hL2 k.nd).congr fun x => ?_).unique (joinR_canon hL1 hL2 hN)
  rw [k.cov x]
  constructor
  · rintro ⟨h1, h2, h3⟩; exact Classical.not_not.1 fun h => h3 ⟨h1, h2, h⟩
  · intro h; have := cov_in hN h; exact ⟨this.1, this.2, fun q => q.2.2 h⟩
theorem sz_runsOf : ∀ T : List Int, ((runsOf L T).map fun r => r.2 - r.1 + 1).sum = sz L T
  | [] => rfl
  | t :: T => by have := sz_runsOf T; unfold runsOf at *; rw [List.map_cons, List.map_cons, List.sum_cons, this, sz]
/-- How many values all nodes hold. -/
theorem joinR_sz (hL1 : 1 ≤ L) (hL2 : L ≤ 48) (hN : ∀ t ∈ ids, Nd L t) : sz L (joinR L ids) = ((runsGo L [] ids).map fun r => r.2 - r.1 + 1).sum := by
  obtain ⟨h1, _, h3⟩ := runs_ok hN
  exact layR_sz hL1 hL2 _ h1 h3
theorem both_sz (hL1 : 1 ≤ L) (hL2 : L ≤ 48) (hN : ∀ t ∈ ids, Nd L t) : sz L (joinR L ids) + sz L (restT L ids) = pw L := by
  obtain ⟨h1, h2, h3⟩ := runs_ok hN
  have hp := pw_pos L
  obtain ⟨r1, r2, r3, r4⟩ := restR_facts (L := L) _ (runs_from _ 0 h1 h3 (Int.le_refl _) (by omega) fun r hr => (h3 r hr).1)
  rw [joinR_sz hL1 hL2 hN, restT, layR_sz hL1 hL2 _ r1 r2]
  omega
theorem both_hold (hL1 : 1 ≤ L) (hL2 : L ≤ 48) (hN : ∀ t ∈ ids, Nd L t) (x : Int) : (Cov L (joinR L ids) x ∨ Cov L (restT L ids) x ↔ 0 ≤ x ∧ x < pw L) ∧ ¬ (Cov L (joinR L ids) x ∧ Cov L (restT L ids) x) := by
  rw [(joinR_canon hL1 hL2 hN).cov x, (restT_canon hL1 hL2 hN).cov x]
  refine ⟨⟨?_, fun h => ?_⟩, fun h => h.2.2.2 h.1⟩
  · rintro (h | h)
    · exact cov_in hN h
    · exact ⟨h.1, h.2.1⟩
  · by_cases hc : Cov L ids x
    · exact .inl hc
    · exact .inr ⟨h.1, h.2, hc⟩
end
/-- Nodes in order, as the program asks and as the document asks. -/
def adj (L : Int) : List Int → Bool
  | t :: s :: r => decide (hi L t < lo L s) && adj L (s :: r)
  | _ => true
def rgo (L last : Int) : List Int → Bool
  | [] => true
  | t :: r => (rightB L t && decide (last < lo L t)) && rgo L (hi L t) r
theorem rgo_eq {L : Int} : ∀ (r : List Int) (t last : Int), rgo L last (t :: r) = (decide (last < lo L t) && ((t :: r).all (rightB L) && adj L (t :: r)))
  | [], t, last => by simp [rgo, adj, Bool.and_comm]
  | s :: r, t, last => by
    have ih := rgo_eq (L := L) r s (hi L t)
    rw [rgo, ih, adj, List.all_cons (a := t)]
    cases rightB L t <;> cases decide (last < lo L t) <;> cases decide (hi L t < lo L s) <;> cases (s :: r).all (rightB L) <;> simp
theorem right_same (L : Int) (ids : List Int) : (allB L ids && adj L ids) = (rgo L (-1) ids && decide (1 ≤ L ∧ L ≤ 48)) := by
  unfold allB
  cases ids with
  | nil => simp [rgo, adj]
  | cons t r =>
    rw [rgo_eq]
    by_cases h : rightB L t = true
    · have hk := right_iff.1 h
      have h0 := lo_nonneg (L := L) (id := t) ⟨hk.1, hk.2.1, hk.2.2.1, hk.2.2.2⟩
      rw [decide_eq_true (show -1 < lo L t by omega)]
      cases (t :: r).all (rightB L) <;> cases adj L (t :: r) <;> cases decide (1 ≤ L ∧ L ≤ 48) <;> rfl
    · rw [List.all_cons, Bool.not_eq_true _ |>.mp h]; simp
end TileM
end Go.Proofs.Ytbibchdjojmpaaa

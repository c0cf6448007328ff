/- Plain facts on tiles, on: runs that grow together, all the rest, nodes joined one by one. No program in sight. By the prover of this repo. -/
import Derived.Test.YtbibchdjojmpaaaTileN
namespace Go.Proofs.Ytbibchdjojmpaaa
namespace TileM
open TwigM

abbrev Run := Int × Int
/-- Runs, rising, apart and not side by side. -/
structure RunsOk (l : List Run) : Prop where
  rise : l.Pairwise fun r s => r.2 + 1 < s.1
  le : ∀ r ∈ l, r.1 ≤ r.2
def CovR (l : List Run) (x : Int) : Prop := ∃ r ∈ l, r.1 ≤ x ∧ x ≤ r.2
theorem covR_cons {r : Run} {l : List Run} {x : Int} : CovR (r :: l) x ↔ (r.1 ≤ x ∧ x ≤ r.2) ∨ CovR l x := by
  unfold CovR
  constructor
  · rintro ⟨s, hs, h⟩
    rcases List.mem_cons.1 hs with rfl | hs
    · exact .inl h
    · exact .inr ⟨s, hs, h⟩
  · rintro (h | ⟨s, hs, h⟩)
    · exact ⟨r, by simp, h⟩
    · exact ⟨s, by simp [hs], h⟩
theorem covR_append {S T : List Run} {x : Int} : CovR (S ++ T) x ↔ CovR S x ∨ CovR T x := by
  unfold CovR
  constructor
  · rintro ⟨s, hs, h⟩
    rcases List.mem_append.1 hs with hs | hs
    · exact .inl ⟨s, hs, h⟩
    · exact .inr ⟨s, hs, h⟩
  · rintro (⟨s, hs, h⟩ | ⟨s, hs, h⟩)
    · exact ⟨s, by simp [hs], h⟩
    · exact ⟨s, by simp [hs], h⟩
theorem covR_nil {x : Int} : ¬ CovR [] x := fun ⟨_, h, _⟩ => by cases h

/-- Runs with one more. -/
def withGo (ahead behind : List Run) (x : Run) : List Run → List Run
  | [] => ahead ++ [x] ++ behind
  | r :: l => if r.2 + 1 < x.1 then withGo (ahead ++ [r]) behind x l else if x.2 + 1 < r.1 then withGo ahead (behind ++ [r]) x l else withGo ahead behind (if r.1 < x.1 then r.1 else x.1, if x.2 < r.2 then r.2 else x.2) l
def withF (l : List Run) (x : Run) : List Run := withGo [] [] x l
theorem withGo_spec : ∀ (l ahead behind : List Run) (x : Run), RunsOk (ahead ++ l) → RunsOk (behind ++ l) → RunsOk (ahead ++ [x] ++ behind) → (behind ≠ [] → ∀ r ∈ l, x.2 + 1 < r.1) →
    RunsOk (withGo ahead behind x l) ∧ ∀ y, CovR (withGo ahead behind x l) y ↔ CovR ahead y ∨ (x.1 ≤ y ∧ y ≤ x.2) ∨ CovR behind y ∨ CovR l y
  | [], ahead, behind, x, h1, h2, h3, h4 => ⟨h3, fun y => by
      rw [withGo, covR_append, covR_append, covR_cons]
      have := @covR_nil y
      constructor
      · rintro ((h | h | h) | h)
        · exact .inl h
        · exact .inr (.inl h)
        · exact absurd h this
        · exact .inr (.inr (.inl h))
      · rintro (h | h | h | h)
        · exact .inl (.inl h)
        · exact .inl (.inr (.inl h))
        · exact .inr h
        · exact absurd h this⟩
  | r :: l, ahead, behind, x, h1, h2, h3, h4 => by
    have p1 := List.pairwise_append.1 h1.rise
    have p2 := List.pairwise_append.1 h2.rise
    have p1r := List.pairwise_cons.1 p1.2.1
    have p3 := List.pairwise_append.1 h3.rise
    have p3a := List.pairwise_append.1 p3.1
    have hr := h1.le r (by simp)
    have hx := h3.le x (by simp)
    rw [withGo]
    by_cases c1 : r.2 + 1 < x.1
    · rw [if_pos c1]
      have hbe : behind = [] := by
        by_cases hb : behind = []
        · exact hb
        · have := h4 hb r (by simp); omega
      subst hbe
      obtain ⟨i1, i2⟩ := withGo_spec l (ahead ++ [r]) [] x ⟨by rw [List.append_assoc]; exact h1.rise, by rw [List.append_assoc]; exact h1.le⟩ ⟨p1r.2, fun s hs => h1.le s (by have hs2 : s ∈ l := hs; simp [hs2])⟩
        ⟨List.pairwise_append.2 ⟨List.pairwise_append.2 ⟨List.pairwise_append.2 ⟨p1.1, by simp, fun s hs t ht => by simp at ht; subst ht; exact p1.2.2 s hs _ (by simp)⟩, by simp, fun s hs t ht => by
          simp at ht; subst ht
          rcases List.mem_append.1 hs with hs | hs
          · exact p3a.2.2 s hs _ (by simp)
          · simp at hs; subst hs; exact c1⟩, by simp, fun _ _ _ h => by cases h⟩, fun s hs => by
          simp at hs
          rcases hs with hs | hs | hs
          · exact h3.le s (by simp [hs])
          · subst hs; exact hr
          · subst hs; exact hx⟩ (fun h => absurd rfl h)
      refine ⟨i1, fun y => ?_⟩
      rw [i2 y, covR_append, covR_cons, covR_cons]
      have := @covR_nil y
      constructor
      · rintro ((h | h | h) | h | h | h)
        · exact .inl h
        · exact .inr (.inr (.inr (.inl h)))
        · exact absurd h this
        · exact .inr (.inl h)
        · exact absurd h this
        · exact .inr (.inr (.inr (.inr h)))
      · rintro (h | h | h | h | h)
        · exact .inl (.inl h)
        · exact .inr (.inl h)
        · exact absurd h this
        · exact .inl (.inr (.inl h))
        · exact .inr (.inr (.inr h))
    · rw [if_neg c1]
      by_cases c2 : x.2 + 1 < r.1
      · rw [if_pos c2]
        obtain ⟨i1, i2⟩ := withGo_spec l ahead (behind ++ [r]) x ⟨List.pairwise_append.2 ⟨p1.1, p1r.2, fun s hs t ht => p1.2.2 s hs t (by simp [ht])⟩, fun s hs => h1.le s (by simp at hs ⊢; rcases hs with h | h <;> simp [h])⟩
          ⟨by rw [List.append_assoc]; exact h2.rise, by rw [List.append_assoc]; exact h2.le⟩
          ⟨by
            rw [← List.append_assoc]
            refine List.pairwise_append.2 ⟨h3.rise, by simp, fun s hs t ht => ?_⟩
            simp at ht; subst ht
            simp at hs
            rcases hs with hs | hs | hs
            · exact p1.2.2 s hs _ (by simp)
            · subst hs; exact c2
            · exact p2.2.2 s hs _ (by simp), fun s hs => by
            simp at hs
            rcases hs with hs | hs | hs | hs
            · exact h3.le s (by simp [hs])
            · subst hs; exact hx
            · exact h3.le s (by simp [hs])
            · subst hs; exact hr⟩ (fun _ s hs => by have := p1r.1 s hs; omega)
        refine ⟨i1, fun y => ?_⟩
        rw [i2 y, covR_append, covR_cons, covR_cons]
        have := @covR_nil y
        constructor
        · rintro (h | h | (h | h | h) | h)
          · exact .inl h
          · exact .inr (.inl h)
          · exact .inr (.inr (.inl h))
          · exact .inr (.inr (.inr (.inl h)))
          · exact absurd h this
          · exact .inr (.inr (.inr (.inr h)))
        · rintro (h | h | h | h | h)
          · exact .inl h
          · exact .inr (.inl h)
          · exact .inr (.inr (.inl (.inl h)))
          · exact .inr (.inr (.inl (.inr (.inl h))))
          · exact .inr (.inr (.inr h))
      · rw [if_neg c2]
        have hbe : behind = [] := by
          by_cases hb : behind = []
          · exact hb
          · have := h4 hb r (by simp); omega
        subst hbe
        have e1 : (if r.1 < x.1 then r.1 else x.1) = min r.1 x.1 := by split <;> omega
        have e2 : (if x.2 < r.2 then r.2 else x.2) = max r.2 x.2 := by split <;> omega
        rw [e1, e2]
        obtain ⟨i1, i2⟩ := withGo_spec l ahead [] (min r.1 x.1, max r.2 x.2) ⟨List.pairwise_append.2 ⟨p1.1, p1r.2, fun s hs t ht => p1.2.2 s hs t (by simp [ht])⟩, fun s hs => h1.le s (by simp at hs ⊢; rcases hs with h | h <;> simp [h])⟩
          ⟨p1r.2, fun s hs => h1.le s (by have hs2 : s ∈ l := hs; simp [hs2])⟩
          ⟨List.pairwise_append.2 ⟨List.pairwise_append.2 ⟨p1.1, by simp, fun s hs t ht => by
            simp at ht; subst ht
            have g1 := p1.2.2 s hs r (by simp)
            have g2 := p3a.2.2 s hs x (by simp)
            show s.2 + 1 < min r.1 x.1
            omega⟩, by simp, fun _ _ _ h => by cases h⟩, fun s hs => by
            simp at hs
            rcases hs with hs | hs
            · exact h3.le s (by simp [hs])
            · subst hs; show min r.1 x.1 ≤ max r.2 x.2; omega⟩ (fun h => absurd rfl h)
        refine ⟨i1, fun y => ?_⟩
        rw [i2 y, covR_cons]
        have e : (min r.1 x.1 ≤ y ∧ y ≤ max r.2 x.2) ↔ (x.1 ≤ y ∧ y ≤ x.2) ∨ (r.1 ≤ y ∧ y ≤ r.2) := by omega
        have e' : (((min r.1 x.1, max r.2 x.2) : Run).1 ≤ y ∧ y ≤ ((min r.1 x.1, max r.2 x.2) : Run).2) ↔ (x.1 ≤ y ∧ y ≤ x.2) ∨ (r.1 ≤ y ∧ y ≤ r.2) := e
        rw [e']
        have := @covR_nil y
        constructor
        · rintro (h | (h | h) | h | h)
          · exact .inl h
          · exact .inr (.inl h)
          · exact .inr (.inr (.inr (.inl h)))
          · exact absurd h this
          · exact .inr (.inr (.inr (.inr h)))
        · rintro (h | h | h | h | h)
          · exact .inl h
          · exact .inr (.inl (.inl h))
          · exact absurd h this
          · exact .inr (.inl (.inr h))
          · exact .inr (.inr (.inr h))
theorem with_spec (l : List Run) (x : Run) (h : RunsOk l) (hx : x.1 ≤ x.2) : RunsOk (withF l x) ∧ ∀ y, CovR (withF l x) y ↔ (x.1 ≤ y ∧ y ≤ x.2) ∨ CovR l y := by
  obtain ⟨i1, i2⟩ := withGo_spec l [] [] x (by simpa using h) (by simpa using h) ⟨by simp, fun s hs => by simp at hs; subst hs; exact hx⟩ (fun h => absurd rfl h)
  refine ⟨i1, fun y => ?_⟩
  rw [withF, i2 y]
  have := @covR_nil y
  constructor
  · rintro (h | h | h | h)
    · exact absurd h this
    · exact .inl h
    · exact absurd h this
    · exact .inr h
  · rintro (h | h)
    · exact .inr (.inl h)
    · exact .inr (.inr (.inr h))

/-- The runs that nodes hold. -/
def runsGo (L : Int) (out : List Run) : List Int → List Run
  | [] => out
  | id :: r => runsGo L (withF out (lo L id, hi L id)) r
def allB (L : Int) (ids : List Int) : Bool := ids.all (rightB L) && decide (1 ≤ L ∧ L ≤ 48)
theorem runsGo_spec {L : Int} : ∀ (ids : List Int) (out : List Run), (∀ t ∈ ids, Nd L t) → RunsOk out → RunsOk (runsGo L out ids) ∧ ∀ y, CovR (runsGo L out ids) y ↔ CovR out y ∨ Cov L ids y
  | [], out, _, h => ⟨h, fun y => by
      constructor
      · exact fun h => .inl h
      · rintro (h | ⟨_, h, _⟩)
        · exact h
        · cases h⟩
  | id :: r, out, hN, h => by
    obtain ⟨h1, h2⟩ := with_spec out (lo L id, hi L id) h (lo_le_hi (hN id (by simp)))
    obtain ⟨i1, i2⟩ := runsGo_spec r _ (fun t ht => hN t (by simp [ht])) h1
    refine ⟨i1, fun y => ?_⟩
    rw [runsGo, i2 y, h2 y, cov_cons]
    constructor
    · rintro ((h | h) | h)
      · exact .inr (.inl h)
      · exact .inl h
      · exact .inr (.inr h)
    · rintro (h | h | h)
      · exact .inl (.inr h)
      · exact .inl (.inl h)
      · exact .inr h
theorem node_range {L id : Int} (h : Nd L id) : 0 ≤ lo L id ∧ hi L id < pw L := by
  refine ⟨lo_nonneg h, ?_⟩
  have hn := lg_nonneg id
  have h3 := anc_holds (lg id).toNat id h (by omega)
  have e : id / pw ((lg id).toNat : Int) = 1 := by
    rw [show ((lg id).toNat : Int) = lg id by omega]
    have hd := lg_div h.a hn (Int.le_refl _)
    rw [Int.sub_self] at hd
    have := lg_spec hd.1
    rw [hd.2, pw_zero] at this
    omega
  rw [e] at h3
  have := root_ends h.l1
  omega

/-- The tiles of runs. -/
def layR (L : Int) : List Run → List Int
  | [] => []
  | r :: l => tilesF L r.1 r.2 ++ layR L l
def InR (L : Int) (l : List Run) : Prop := ∀ r ∈ l, 0 ≤ r.1 ∧ r.2 < pw L
/-- Of a left one the other one begins behind it. -/
theorem pair_next {L t : Int} (h : Nd L t) (h2 : t % 2 = 0) : lo L (t + 1) = hi L t + 1 ∧ hi L (t / 2) = hi L (t + 1) ∧ 2 ≤ t := by
  have ht : 2 ≤ t := by have := h.a; omega
  have hb := h.b
  have h0 := hi_kid0 (h.half ht) (by omega)
  have h1 := hi_kid1 (h.half ht) (by omega)
  rw [show 2 * (t / 2) = t by omega] at h0 h1
  omega
theorem Row.most {L b : Int} : ∀ (r : List Int) (x : Int), Row L b x r → ∀ t ∈ r, ¬ (2 ≤ t ∧ t % 2 = 0 ∧ hi L (t / 2) ≤ b)
  | [], _, _, t, ht => by cases ht
  | s :: r, x, h, t, ht => by
    rcases List.mem_cons.1 ht with rfl | ht
    · exact h.2.2.2.1
    · exact Row.most r _ h.2.2.2.2 t ht
theorem layR_mem {L : Int} (hL1 : 1 ≤ L) (hL2 : L ≤ 48) : ∀ (l : List Run), RunsOk l → InR L l → ∀ t ∈ layR L l, Nd L t ∧ ∃ r ∈ l, r.1 ≤ lo L t ∧ hi L t ≤ r.2 ∧ ¬ (2 ≤ t ∧ t % 2 = 0 ∧ hi L (t / 2) ≤ r.2)
  | [], _, _, t, ht => by cases ht
  | r :: l, h, hi0, t, ht => by
    have hr := hi0 r (by simp)
    have hle := h.le r (by simp)
    rw [layR] at ht
    rcases List.mem_append.1 ht with ht | ht
    · have hrow := tiles_row hL1 hL2 hr.1 (by omega) hr.2
      obtain ⟨g1, g2, g3⟩ := Row.nd _ _ hrow t ht
      exact ⟨g1, r, by simp, g2, g3, Row.most _ _ hrow t ht⟩
    · obtain ⟨g1, s, hs, g2⟩ := layR_mem hL1 hL2 l ⟨(List.pairwise_cons.1 h.rise).2, fun s hs => h.le s (by simp [hs])⟩ (fun s hs => hi0 s (by simp [hs])) t ht
      exact ⟨g1, s, by simp [hs], g2⟩
theorem layR_cov {L : Int} (hL1 : 1 ≤ L) (hL2 : L ≤ 48) : ∀ (l : List Run), RunsOk l → InR L l → ∀ x, Cov L (layR L l) x ↔ CovR l x
  | [], _, _, x => ⟨(fun ⟨_, h, _⟩ => by cases h), fun h => absurd h covR_nil⟩
  | r :: l, h, hi0, x => by
    have hr := hi0 r (by simp)
    have hle := h.le r (by simp)
    rw [layR, cov_append, covR_cons, Row.cov _ _ (tiles_row hL1 hL2 hr.1 (by omega) hr.2) x, layR_cov hL1 hL2 l ⟨(List.pairwise_cons.1 h.rise).2, fun s hs => h.le s (by simp [hs])⟩ (fun s hs => hi0 s (by simp [hs])) x]
theorem layR_apart {L : Int} (hL1 : 1 ≤ L) (hL2 : L ≤ 48) : ∀ (l : List Run), RunsOk l → InR L l → Apart L (layR L l)
  | [], _, _ => List.Pairwise.nil
  | r :: l, h, hi0 => by
    have hr := hi0 r (by simp)
    have hle := h.le r (by simp)
    have hp := List.pairwise_cons.1 h.rise
    have hl : RunsOk l := ⟨hp.2, fun s hs => h.le s (by simp [hs])⟩
    have hil : InR L l := fun s hs => hi0 s (by simp [hs])
    have hrow := tiles_row hL1 hL2 hr.1 (by omega) hr.2
    refine List.pairwise_append.2 ⟨Row.apart _ _ hrow, layR_apart hL1 hL2 l hl hil, fun s hs t ht => ?_⟩
    have g1 := Row.nd _ _ hrow s hs
    obtain ⟨_, q, hq, g2, _⟩ := layR_mem hL1 hL2 l hl hil t ht
    have := hp.1 q hq
    omega
theorem layR_canon {L : Int} (hL1 : 1 ≤ L) (hL2 : L ≤ 48) (l : List Run) (h : RunsOk l) (hi0 : InR L l) : Canon L (CovR l) (layR L l) := by
  refine (canon_of (fun t ht => (layR_mem hL1 hL2 l h hi0 t ht).1) (layR_apart hL1 hL2 l h hi0) fun t ht h2 hn => ?_).congr (layR_cov hL1 hL2 l h hi0)
  obtain ⟨n1, r, hr, a1, a2, a3⟩ := layR_mem hL1 hL2 l h hi0 t ht
  obtain ⟨n2, s, hs, b1, b2, _⟩ := layR_mem hL1 hL2 l h hi0 (t + 1) hn
  obtain ⟨p1, p2, p3⟩ := pair_next n1 h2
  have hlt := lo_le_hi n1
  have hls := lo_le_hi n2
  have key : ∀ (l : List Run), RunsOk l → r ∈ l → s ∈ l → r = s ∨ r.2 + 1 < s.1 ∨ s.2 + 1 < r.1 := by
    intro l
    induction l with
    | nil => intro _ h; cases h
    | cons c l ih =>
      intro hA h1 h2
      have hA' := List.pairwise_cons.1 hA.rise
      rcases List.mem_cons.1 h1 with e1 | h1 <;> rcases List.mem_cons.1 h2 with e2 | h2
      · exact .inl (e1.trans e2.symm)
      · exact .inr (.inl (by rw [e1]; exact hA'.1 s h2))
      · exact .inr (.inr (by rw [e2]; exact hA'.1 r h1))
      · exact ih ⟨hA'.2, fun q hq => hA.le q (by simp [hq])⟩ h1 h2
  rcases key l h hr hs with e | e | e
  · rw [← e] at b2
    exact a3 ⟨p3, h2, by omega⟩
  · omega
  · omega
theorem layR_sz {L : Int} (hL1 : 1 ≤ L) (hL2 : L ≤ 48) : ∀ (l : List Run), RunsOk l → InR L l → sz L (layR L l) = (l.map fun r => r.2 - r.1 + 1).sum
  | [], _, _ => rfl
  | r :: l, h, hi0 => by
    have hr := hi0 r (by simp)
    have hle := h.le r (by simp)
    have hap : ∀ a b : List Int, sz L (a ++ b) = sz L a + sz L b := fun a b => by
      induction a with
      | nil => simp [sz]
      | cons t a ih => rw [List.cons_append, sz, sz, ih]; omega
    rw [layR, hap, Row.sz _ _ (tiles_row hL1 hL2 hr.1 (by omega) hr.2), layR_sz hL1 hL2 l ⟨(List.pairwise_cons.1 h.rise).2, fun s hs => h.le s (by simp [hs])⟩ (fun s hs => hi0 s (by simp [hs]))]
    simp; omega
end TileM
end Go.Proofs.Ytbibchdjojmpaaa

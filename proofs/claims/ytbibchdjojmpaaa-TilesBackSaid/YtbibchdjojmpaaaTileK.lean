/- Plain facts on tiles, on: nodes joined one by one on a stack; all the rest, tile by tile; how many values. No program in sight. By the prover of this repo. -/
import Derived.Test.YtbibchdjojmpaaaTileJ
namespace Go.Proofs.Ytbibchdjojmpaaa
namespace TileM
open TwigM

/-- The other one of a pair. -/
def xor1 (t : Int) : Int := if t % 2 = 0 then t + 1 else t - 1
/-- One more on a stack, pairs becoming one. -/
def mergeUp : List Int → Int → List Int
  | [], id => [id]
  | t :: S, id => if xor1 t = id then mergeUp S (id / 2) else id :: t :: S
/-- Is the last one above a node? -/
def headB : List Int → Int → Bool
  | [], _ => false
  | t :: _, id => aboveB t id
/-- Nodes joined, the last one first. -/
def joinGo (S : List Int) : List Int → List Int
  | [] => S
  | id :: r => if headB S id = true then joinGo S r else joinGo (mergeUp S id) r
/-- By the least values, and of the same, the greater node ahead. -/
def Before (L a b : Int) : Prop := lo L a < lo L b ∨ (lo L a = lo L b ∧ a ≤ b)

theorem above_holds {L a b : Int} (ha : Nd L a) (hb : Nd L b) : aboveB a b = true ↔ lo L a ≤ lo L b ∧ hi L b ≤ hi L a := by
  have hbl := lo_le_hi hb
  constructor
  · intro h
    unfold aboveB at h
    rw [decide_eq_true_eq] at h
    obtain ⟨_, _, h3, h4⟩ := h
    have := anc_holds (lg b - lg a).toNat b hb (by have := lg_nonneg a; omega)
    rw [show (((lg b - lg a).toNat : Nat) : Int) = lg b - lg a by omega, h4] at this
    exact this.2
  · intro h
    have hx := node_range hb
    have h1 := (above_leaf (x := lo L b) ha.l1 ha.a ha.b (by omega) (by omega)).2 ⟨h.1, by have : hi L a = loF L a + pw (L - lg a) - 1 := rfl; omega⟩
    have h2 := (above_leaf (x := lo L b) hb.l1 hb.a hb.b (by omega) (by omega)).2 ⟨Int.le_refl _, by have : hi L b = loF L b + pw (L - lg b) - 1 := rfl; omega⟩
    have hl := leaf_eq (Nd.leaf ha.l1 ha.l2 hx.1 (show lo L b < pw L by omega)) (by omega)
    unfold aboveB at h1 h2 ⊢
    rw [decide_eq_true_eq, hl] at h1 h2
    rw [decide_eq_true_eq]
    have hle : lg a ≤ lg b := by
      by_cases hc : lg a ≤ lg b
      · exact hc
      · have hla := ha.lg_le
        have := pw_lt (show 0 ≤ L - lg a by omega) (show L - lg a < L - lg b by omega)
        have e1 : hi L a = lo L a + pw (L - lg a) - 1 := rfl
        have e2 : hi L b = lo L b + pw (L - lg b) - 1 := rfl
        omega
    refine ⟨ha.a, hb.a, hle, ?_⟩
    have hlb := hb.lg_le
    have hda := h1.2.2.2
    have hdb := h2.2.2.2
    have e : b / pw (lg b - lg a) = (pw L + lo L b) / pw (L - lg b) / pw (lg b - lg a) := by rw [hdb]
    rw [e, Int.ediv_ediv_of_nonneg (by have := pw_pos (L - lg b); omega), ← pw_add (by omega) (by omega), show L - lg b + (lg b - lg a) = L - lg a by omega, hda]

/-- A stack of tiles: rising from its foot, apart, none of which make a pair. -/
structure Stack (L : Int) (S : List Int) : Prop where
  nd : ∀ t ∈ S, Nd L t
  apart : S.Pairwise fun t s => hi L s < lo L t
  pair : ∀ t ∈ S, t % 2 = 0 → t + 1 ∉ S
theorem mergeUp_spec {L : Int} : ∀ (S : List Int) (id : Int), Stack L S → Nd L id → (∀ s ∈ S, hi L s < lo L id) →
    Stack L (mergeUp S id) ∧ (∀ y, Cov L (mergeUp S id) y ↔ Cov L S y ∨ (lo L id ≤ y ∧ y ≤ hi L id)) ∧ (∃ h T, mergeUp S id = h :: T ∧ lo L h ≤ lo L id ∧ hi L h = hi L id) ∧
    ∀ t ∈ mergeUp S id, (∃ p ∈ S, lo L p = lo L t ∧ hi L p ≤ hi L t) ∨ (lo L id = lo L t ∧ hi L id ≤ hi L t)
  | [], id, _, h, _ => ⟨⟨fun t ht => by simp [mergeUp] at ht; subst ht; exact h, by simp [mergeUp], fun t ht _ k => by simp [mergeUp] at ht k; omega⟩, fun y => by
      rw [mergeUp, cov_cons]
      constructor
      · rintro (h | ⟨_, h, _⟩)
        · exact .inr h
        · cases h
      · rintro (⟨_, h, _⟩ | h)
        · cases h
        · exact .inl h, ⟨id, [], rfl, Int.le_refl _, rfl⟩, fun t ht => by simp [mergeUp] at ht; subst ht; exact .inr ⟨rfl, Int.le_refl _⟩⟩
  | t :: S, id, hS, h, hlt => by
    have ht := hS.nd t (by simp)
    have hp := List.pairwise_cons.1 hS.apart
    have h1 := hlt t (by simp)
    have htl := lo_le_hi ht
    have hil := lo_le_hi h
    have hS' : Stack L S := ⟨fun s hs => hS.nd s (by simp [hs]), hp.2, fun s hs h2 k => hS.pair s (by simp [hs]) h2 (by simp [k])⟩
    rw [mergeUp]
    by_cases hx : xor1 t = id
    · rw [if_pos hx]
      have he : t % 2 = 0 := by
        by_cases h2 : t % 2 = 0
        · exact h2
        · rw [xor1, if_neg h2] at hx
          have hid2 : id % 2 = 0 := by omega
          have := pair_next h hid2
          rw [show id + 1 = t by omega] at this
          omega
      rw [xor1, if_pos he] at hx
      obtain ⟨p1, p2, p3⟩ := pair_next ht he
      have hh := half_ends ht p3
      have e : id / 2 = t / 2 := by omega
      have hl2 := (hh.1 he).1
      rw [hx] at p1 p2
      have hN : Nd L (id / 2) := by rw [e]; exact ht.half p3
      obtain ⟨i1, i2, ⟨hd, T, i3, i4, i5⟩, i6⟩ := mergeUp_spec S (id / 2) hS' hN fun s hs => by have := hp.1 s hs; rw [e]; omega
      refine ⟨i1, fun y => ?_, ⟨hd, T, i3, by rw [e] at i4; omega, by rw [e] at i5; omega⟩, fun s hs => ?_⟩
      · rw [i2 y, cov_cons, e]
        constructor
        · rintro (k | k)
          · exact .inl (.inr k)
          · by_cases hy : y ≤ hi L t
            · exact .inl (.inl (by omega))
            · exact .inr (by omega)
        · rintro ((k | k) | k)
          · exact .inr (by omega)
          · exact .inl k
          · exact .inr (by omega)
      · rcases i6 s hs with ⟨p, hp', k⟩ | k
        · exact .inl ⟨p, by simp [hp'], k⟩
        · exact .inl ⟨t, by simp, by rw [e] at k; omega⟩
    · rw [if_neg hx]
      refine ⟨⟨fun s hs => ?_, List.pairwise_cons.2 ⟨fun s hs => hlt s hs, hS.apart⟩, fun s hs h2 k => ?_⟩, fun y => ?_, ⟨id, t :: S, rfl, Int.le_refl _, rfl⟩, fun s hs => ?_⟩
      · rcases List.mem_cons.1 hs with rfl | hs
        · exact h
        · exact hS.nd s hs
      · rcases List.mem_cons.1 hs with e1 | hs <;> rcases List.mem_cons.1 k with e2 | k2
        · omega
        · subst e1
          have := pair_next h h2
          have := hlt _ k2
          have := lo_le_hi (hS.nd _ k2)
          omega
        · have hsn := hS.nd s hs
          obtain ⟨q1, _, _⟩ := pair_next hsn h2
          rw [e2] at q1
          rcases List.mem_cons.1 hs with e3 | hs3
          · subst e3
            exact hx (by rw [xor1, if_pos h2, e2])
          · have := hp.1 s hs3
            omega
        · exact hS.pair s hs h2 k2
      · rw [cov_cons]
        constructor
        · rintro (k | k)
          · exact .inr k
          · exact .inl k
        · rintro (k | k)
          · exact .inr k
          · exact .inl k
      · rcases List.mem_cons.1 hs with rfl | hs
        · exact .inr ⟨rfl, Int.le_refl _⟩
        · exact .inl ⟨s, hs, rfl, Int.le_refl _⟩

theorem joinGo_spec {L : Int} : ∀ (ids S P : List Int), Stack L S → (∀ t ∈ ids, Nd L t) → (∀ t ∈ P, Nd L t) → (ids.Pairwise (Before L)) → (∀ p ∈ P, ∀ t ∈ ids, Before L p t) → (∀ s ∈ S, ∃ p ∈ P, lo L p = lo L s ∧ hi L p ≤ hi L s) →
    Stack L (joinGo S ids) ∧ ∀ y, Cov L (joinGo S ids) y ↔ Cov L S y ∨ Cov L ids y
  | [], S, _, hS, _, _, _, _, _ => ⟨hS, fun y => by
      constructor
      · exact fun h => .inl h
      · rintro (h | ⟨_, h, _⟩)
        · exact h
        · cases h⟩
  | id :: r, S, P, hS, hN, hPN, hb, hP, hL => by
    have hid := hN id (by simp)
    have hb' := List.pairwise_cons.1 hb
    have hil := lo_le_hi hid
    have hcase : (∃ t T, S = t :: T ∧ aboveB t id = true) ∨ (headB S id = false ∧ ∀ s ∈ S, hi L s < lo L id) := by
      cases hs : S with
      | nil => exact .inr ⟨rfl, fun s hs => by cases hs⟩
      | cons t T =>
        subst hs
        have ht := hS.nd t (by simp)
        by_cases ha : aboveB t id = true
        · exact .inl ⟨t, T, rfl, ha⟩
        · right
          refine ⟨by rw [headB]; simpa using ha, fun s hs => ?_⟩
          have hhd : hi L t < lo L id := by
            by_cases hc : hi L t < lo L id
            · exact hc
            · obtain ⟨p, hp, e1, e2⟩ := hL t (by simp)
              have hbf := hP p hp id (by simp)
              have hlo : lo L t ≤ lo L id := by rcases hbf with h | h <;> omega
              have hnot : ¬ (lo L t ≤ lo L id ∧ hi L id ≤ hi L t) := fun k => ha ((above_holds ht hid).2 k)
              rcases nested ht hid ⟨hlo, by omega⟩ ⟨Int.le_refl _, hil⟩ with e | ⟨g1, g2, g3⟩ | ⟨g1, g2, g3⟩
              · subst e; exact absurd ⟨Int.le_refl _, Int.le_refl _⟩ hnot
              · have hh := half_ends ht g1
                have hpar : t % 2 = 0 ∨ t % 2 = 1 := by omega
                have hlt2 : lo L (t / 2) ≤ lo L t := by rcases hpar with k | k; · have := hh.1 k; omega
                                                        · have := hh.2 k; omega
                have hht2 : hi L t ≤ hi L (t / 2) := by rcases hpar with k | k; · have := hh.1 k; omega
                                                        · have := hh.2 k; omega
                have heq : lo L id = lo L t := by omega
                have hpn := hPN p hp
                have hle : p ≤ id := by rcases hbf with h | h <;> omega
                have hsz : hi L p < hi L id := by
                  have : hi L t ≠ hi L id := fun e => hnot ⟨by omega, by omega⟩
                  omega
                have q1 : hi L p = lo L p + pw (L - lg p) - 1 := rfl
                have q2 : hi L id = lo L id + pw (L - lg id) - 1 := rfl
                have hlg : lg id < lg p := by
                  by_cases hc2 : lg id < lg p
                  · exact hc2
                  · have := pw_mono (show L - lg id ≤ L - lg p by omega); omega
                have := lt_of_lg hpn.a hid.a hlg
                omega
              · have hh := half_ends hid g1
                have hpar : id % 2 = 0 ∨ id % 2 = 1 := by omega
                have hhid : hi L id ≤ hi L (id / 2) := by rcases hpar with k | k; · have := hh.1 k; omega
                                                          · have := hh.2 k; omega
                exact absurd ⟨hlo, by omega⟩ hnot
          rcases List.mem_cons.1 hs with rfl | hs
          · exact hhd
          · have := (List.pairwise_cons.1 hS.apart).1 s hs
            have := lo_le_hi ht
            omega
    rw [joinGo]
    rcases hcase with ⟨t, T, rfl, ha⟩ | ⟨hf, hlt⟩
    · rw [show headB (t :: T) id = true from ha, if_pos rfl]
      obtain ⟨i1, i2⟩ := joinGo_spec r (t :: T) P hS (fun s hs => hN s (by simp [hs])) hPN hb'.2 (fun p hp s hs => hP p hp s (by simp [hs])) hL
      refine ⟨i1, fun y => ?_⟩
      rw [i2 y, cov_cons (t := id)]
      have hin := (above_holds (hS.nd t (by simp)) hid).1 ha
      constructor
      · rintro (k | k)
        · exact .inl k
        · exact .inr (.inr k)
      · rintro (k | k | k)
        · exact .inl k
        · exact .inl ⟨t, by simp, by omega⟩
        · exact .inr k
    · rw [hf, if_neg (by simp)]
      obtain ⟨m1, m2, _, m4⟩ := mergeUp_spec S id hS hid hlt
      obtain ⟨i1, i2⟩ := joinGo_spec r (mergeUp S id) (id :: P) m1 (fun s hs => hN s (by simp [hs])) (fun t ht => by
          rcases List.mem_cons.1 ht with rfl | ht
          · exact hid
          · exact hPN t ht) hb'.2 (fun p hp s hs => by
          rcases List.mem_cons.1 hp with rfl | hp
          · exact hb'.1 s hs
          · exact hP p hp s (by simp [hs])) (fun s hs => by
          rcases m4 s hs with ⟨p, hp, k⟩ | k
          · obtain ⟨q, hq, k1, k2⟩ := hL p hp
            exact ⟨q, by simp [hq], by omega⟩
          · exact ⟨id, by simp, k⟩)
      refine ⟨i1, fun y => ?_⟩
      rw [i2 y, m2 y, cov_cons (t := id)]
      constructor
      · rintro ((k | k) | k)
        · exact .inl k
        · exact .inr (.inl k)
        · exact .inr (.inr k)
      · rintro (k | k | k)
        · exact .inl (.inl k)
        · exact .inl (.inr k)
        · exact .inr k

/-- The stack, from its foot on: the fewest tiles of what the nodes hold. -/
theorem join_canon {L : Int} (ids : List Int) (hN : ∀ t ∈ ids, Nd L t) (hb : ids.Pairwise (Before L)) : Canon L (Cov L ids) (joinGo [] ids).reverse := by
  obtain ⟨h1, h2⟩ := joinGo_spec ids [] [] ⟨(fun t ht => by cases ht), List.Pairwise.nil, (fun t ht => by cases ht)⟩ hN (fun t ht => by cases ht) hb (fun p hp => by cases hp) (fun p hp => by cases hp)
  have hcov : ∀ y, Cov L (joinGo [] ids).reverse y ↔ Cov L ids y := fun y => by
    have e : Cov L (joinGo [] ids).reverse y ↔ Cov L (joinGo [] ids) y := by unfold Cov; simp
    rw [e, h2 y]
    constructor
    · rintro (⟨_, h, _⟩ | k)
      · cases h
      · exact k
    · exact fun k => .inr k
  exact (canon_of (fun t ht => h1.nd t (by simpa using ht)) (List.pairwise_reverse.2 h1.apart) fun t ht h2 k => h1.pair t (by simpa using ht) h2 (by simpa using k)).congr hcov

/-- The nodes of runs and all the rest. -/
def restR (L : Int) (x : Int) : List Run → List Run
  | [] => if x < pw L then [(x, pw L - 1)] else []
  | r :: l => (if x < r.1 then [(x, r.1 - 1)] else []) ++ restR L (r.2 + 1) l
/-- Runs apart, side by side or not, from a value on. -/
def From (L : Int) (x : Int) : List Run → Prop
  | [] => 0 ≤ x ∧ x ≤ pw L
  | r :: l => 0 ≤ x ∧ x ≤ r.1 ∧ r.1 ≤ r.2 ∧ From L (r.2 + 1) l
theorem From.le {L : Int} : ∀ (l : List Run) (x : Int), From L x l → 0 ≤ x ∧ x ≤ pw L
  | [], _, h => h
  | r :: l, x, h => by have := From.le l _ h.2.2.2; have := h.1; have := h.2.1; have := h.2.2.1; omega
theorem From.cov {L : Int} : ∀ (l : List Run) (x y : Int), From L x l → CovR l y → x ≤ y ∧ y < pw L
  | [], _, _, _, h => absurd h covR_nil
  | r :: l, x, y, h, k => by
    obtain ⟨h1, h2, h3, h4⟩ := h
    have := From.le l _ h4
    rcases covR_cons.1 k with k | k
    · omega
    · have := From.cov l _ y h4 k; omega
theorem rest_spec {L : Int} : ∀ (l : List Run) (x : Int), From L x l → RunsOk (restR L x l) ∧ InR L (restR L x l) ∧ (∀ r ∈ restR L x l, x ≤ r.1) ∧ (∀ y, CovR (restR L x l) y ↔ x ≤ y ∧ y < pw L ∧ ¬ CovR l y) ∧
    ((restR L x l).map fun r => r.2 - r.1 + 1).sum + (l.map fun r => r.2 - r.1 + 1).sum = pw L - x
  | [], x, h => by
    have h1 : 0 ≤ x ∧ x ≤ pw L := h
    rw [restR]
    by_cases hc : x < pw L
    · rw [if_pos hc]
      refine ⟨⟨by simp, fun r hr => by simp at hr; subst hr; show x ≤ pw L - 1; omega⟩, fun r hr => by simp at hr; subst hr; exact ⟨h1.1, by show pw L - 1 < pw L; omega⟩, fun r hr => by simp at hr; subst hr; exact Int.le_refl _, fun y => ?_, by simp; omega⟩
      rw [covR_cons]
      have := @covR_nil y
      constructor
      · rintro (k | k)
        · simp only at k; exact ⟨k.1, by omega, this⟩
        · exact absurd k this
      · intro k; exact .inl (by simp only; omega)
    · rw [if_neg hc]
      refine ⟨⟨List.Pairwise.nil, (fun r hr => by cases hr)⟩, (fun r hr => by cases hr), (fun r hr => by cases hr), fun y => ?_, by simp; omega⟩
      constructor
      · exact fun k => absurd k covR_nil
      · intro k; omega
  | r :: l, x, h => by
    obtain ⟨h1, h2, h3, h4⟩ := h
    obtain ⟨i1, i2, i3, i4, i5⟩ := rest_spec l (r.2 + 1) h4
    have hle := From.le l _ h4
    rw [restR]
    have hcl : ∀ y, CovR l y → r.2 + 1 ≤ y := fun y k => (From.cov l _ y h4 k).1
    by_cases hc : x < r.1
    · rw [if_pos hc]
      refine ⟨⟨List.pairwise_append.2 ⟨by simp, i1.rise, fun a ha b hb => ?_⟩, fun a ha => ?_⟩, fun a ha => ?_, fun a ha => ?_, fun y => ?_, ?_⟩
      · simp at ha; subst ha
        have := i3 b hb
        show r.1 - 1 + 1 < b.1
        omega
      · rcases List.mem_append.1 ha with ha | ha
        · simp at ha; subst ha; show x ≤ r.1 - 1; omega
        · exact i1.le a ha
      · rcases List.mem_append.1 ha with ha | ha
        · simp at ha; subst ha; exact ⟨h1, by show r.1 - 1 < pw L; omega⟩
        · exact i2 a ha
      · rcases List.mem_append.1 ha with ha | ha
        · simp at ha; subst ha; exact Int.le_refl _
        · have := i3 a ha; omega
      · rw [covR_append, covR_cons, covR_cons, i4 y]
        have := @covR_nil y
        have hcy := hcl y
        simp only
        constructor
        · rintro ((k | k) | k)
          · exact ⟨k.1, by omega, fun q => by rcases q with q | q; · omega
                                              · have := hcy q; omega⟩
          · exact absurd k this
          · exact ⟨by omega, k.2.1, fun q => by rcases q with q | q; · omega
                                                · exact k.2.2 q⟩
        · rintro ⟨k1, k2, k3⟩
          by_cases hy : y ≤ r.1 - 1
          · exact .inl (.inl ⟨k1, hy⟩)
          · exact .inr ⟨by
              by_cases hy2 : y ≤ r.2
              · exact absurd (.inl ⟨by omega, hy2⟩) k3
              · omega, k2, fun q => k3 (.inr q)⟩
      · simp only [List.map_append, List.sum_append, List.map_cons, List.map_nil, List.sum_cons, List.sum_nil]
        omega
    · rw [if_neg hc, List.nil_append]
      refine ⟨i1, i2, fun a ha => by have := i3 a ha; omega, fun y => ?_, by simp only [List.map_cons, List.sum_cons]; omega⟩
      rw [covR_cons, i4 y]
      have hcy := hcl y
      constructor
      · rintro ⟨k1, k2, k3⟩
        exact ⟨by omega, k2, fun q => by rcases q with q | q; · omega
                                         · exact k3 q⟩
      · rintro ⟨k1, k2, k3⟩
        exact ⟨by
          by_cases hy2 : y ≤ r.2
          · exact absurd (.inl ⟨by omega, hy2⟩) k3
          · omega, k2, fun q => k3 (.inr q)⟩
end TileM
end Go.Proofs.Ytbibchdjojmpaaa

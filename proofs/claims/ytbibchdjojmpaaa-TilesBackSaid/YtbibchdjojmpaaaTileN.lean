/- Plain facts on tiles, on: a row of tiles; how many there are; which lists of tiles are the fewest of what they hold, and that there is but one. No program in sight. By the prover of this repo. -/
import Derived.Test.YtbibchdjojmpaaaTileM
namespace Go.Proofs.Ytbibchdjojmpaaa
namespace TileM
open TwigM

/-- Tiles one behind the other, from a value up to b, each the greatest that goes no further. -/
def Row (L b : Int) (x : Int) : List Int → Prop
  | [] => x = b + 1
  | t :: r => Nd L t ∧ lo L t = x ∧ hi L t ≤ b ∧ ¬ (2 ≤ t ∧ t % 2 = 0 ∧ hi L (t / 2) ≤ b) ∧ Row L b (hi L t + 1) r
theorem greedy_row {L b : Int} (hL1 : 1 ≤ L) (hL2 : L ≤ 48) (hb : b < pw L) : ∀ (n : Nat) (x : Int), 0 ≤ x → x ≤ b + 1 → (b + 1 - x).toNat ≤ n → Row L b x (greedy L b n x) := by
  intro n
  induction n with
  | zero => intro x h0 h1 h2; rw [greedy]; show x = b + 1; omega
  | succ n ih =>
    intro x h0 h1 h2
    rw [greedy]
    by_cases h : b < x
    · rw [if_pos h]; show x = b + 1; omega
    · rw [if_neg h]
      have hle := leaf_ends hL1 hL2 h0 (show x < pw L by omega)
      obtain ⟨s1, s2, s3, s4, s5⟩ := upT_spec (L := L) (b := b) _ _ (Nat.le_refl _) (Nd.leaf hL1 hL2 h0 (by omega)) (by omega)
      exact ⟨s1, by omega, s3, s5, ih _ (by omega) (by omega) (by omega)⟩
theorem tiles_row {L a b : Int} (hL1 : 1 ≤ L) (hL2 : L ≤ 48) (ha : 0 ≤ a) (hab : a ≤ b + 1) (hb : b < pw L) : Row L b a (tilesF L a b) := greedy_row hL1 hL2 hb _ a ha hab (Nat.le_refl _)

theorem Row.nd {L b : Int} : ∀ (r : List Int) (x : Int), Row L b x r → ∀ t ∈ r, Nd L t ∧ x ≤ lo L t ∧ hi L t ≤ b
  | [], _, _, t, ht => by cases ht
  | s :: r, x, h, t, ht => by
    obtain ⟨h1, h2, h3, _, h5⟩ := h
    rcases List.mem_cons.1 ht with rfl | ht
    · exact ⟨h1, by omega, h3⟩
    · have h6 := Row.nd r _ h5 t ht
      have := lo_le_hi h1
      exact ⟨h6.1, by omega, h6.2.2⟩
theorem Row.le {L b : Int} : ∀ (r : List Int) (x : Int), Row L b x r → x ≤ b + 1
  | [], _, h => by have : _ = _ := h; omega
  | t :: r, _, h => by
    obtain ⟨h1, h2, h3, _, _⟩ := h
    have := lo_le_hi h1
    omega
/-- No two side by side make a pair. -/
theorem Row.pair {L b : Int} {t s : Int} {r : List Int} {x : Int} (h : Row L b x (t :: s :: r)) : ¬ (t % 2 = 0 ∧ s = t + 1) := fun k => by
  obtain ⟨h1, h2, h3, h4, g1, g2, g3, _⟩ := h
  have ht : 2 ≤ t := by have := h1.a; omega
  have hb := (half_ends g1 (by omega)).2 (by omega)
  rw [k.2, show (t + 1) / 2 = t / 2 by omega] at hb
  refine h4 ⟨ht, k.1, ?_⟩
  rw [k.2] at g3
  omega

/-- How many values tiles hold. -/
def sz (L : Int) : List Int → Int
  | [] => 0
  | t :: r => (hi L t - lo L t + 1) + sz L r
theorem Row.sz {L b : Int} : ∀ (r : List Int) (x : Int), Row L b x r → sz L r = b + 1 - x
  | [], x, h => by have : x = b + 1 := h; rw [TileM.sz]; omega
  | t :: r, x, h => by
    obtain ⟨_, h2, _, _, h5⟩ := h
    have := Row.sz r _ h5
    rw [TileM.sz]; omega
/-- Rising, apart. -/
def Apart (L : Int) (T : List Int) : Prop := T.Pairwise fun s t => hi L s < lo L t
theorem Row.apart {L b : Int} : ∀ (r : List Int) (x : Int), Row L b x r → Apart L r
  | [], _, _ => List.Pairwise.nil
  | t :: r, x, h => List.pairwise_cons.2 ⟨fun s hs => by have := (Row.nd r _ h.2.2.2.2 s hs).2.1; omega, Row.apart r _ h.2.2.2.2⟩

/-- How many tiles there are at most. -/
theorem lay_none {L a b : Int} {id : Int} (h : hi L id < a ∨ b < lo L id) : ∀ n : Nat, lay L a b n id = []
  | 0 => by rw [lay, if_pos h]
  | n + 1 => by rw [lay, if_pos h]
theorem lay_full {L a b : Int} {id : Int} (hN : Nd L id) (h : a ≤ lo L id ∧ hi L id ≤ b) : ∀ n : Nat, lay L a b n id = [id]
  | 0 => by have := lo_le_hi hN; rw [lay, if_neg (by omega)]
  | n + 1 => by have := lo_le_hi hN; rw [lay, if_neg (by omega), if_pos h]
theorem lay_side {L a b : Int} : ∀ (k : Nat) (id : Int), Nd L id → lg id + k = L → (a ≤ lo L id ∨ hi L id ≤ b) → (lay L a b k id).length ≤ max 1 k := by
  intro k
  induction k with
  | zero => intro id h _ _; rw [lay]; split <;> simp
  | succ k ih =>
    intro id h hk hs
    have hlt : id < pw L := (inner_iff h).2 (by omega)
    have h0 := h.kid0 hlt
    have h1 := h.kid1 hlt
    have e1 := lo_kid0 h hlt
    have e2 := hi_kid0 h hlt
    have e3 := hi_kid1 h hlt
    have e4 := lo_le_hi h0
    have e5 := lo_le_hi h1
    rw [lay]
    split
    · simp
    · split
      · simp
      · rename_i c1 c2
        have i0 := ih (2 * id) h0 (by rw [lg_kid0 h]; omega)
        have i1 := ih (2 * id + 1) h1 (by rw [lg_kid1 h]; omega)
        rw [List.length_append]
        rcases hs with hs | hs
        · by_cases c3 : hi L (2 * id) ≤ b
          · rw [lay_full h0 ⟨by omega, c3⟩]
            have := i1 (.inl (by omega))
            cases k with
            | zero =>
              have hleaf : lo L (2 * id + 1) = hi L (2 * id + 1) := by unfold lo hi; rw [lg_kid1 h, show lg id + 1 = L by omega, Int.sub_self, pw_zero]; omega
              rw [lay_none (.inr (by omega))]; simp
            | succ k => simp at this ⊢; omega
          · rw [lay_none (id := 2 * id + 1) (.inr (by omega))]
            have := i0 (.inl (by omega))
            simp; omega
        · by_cases c3 : a ≤ lo L (2 * id + 1)
          · rw [lay_full h1 ⟨c3, by omega⟩]
            have := i0 (.inr (by omega))
            cases k with
            | zero =>
              have hleaf : lo L (2 * id) = hi L (2 * id) := by unfold lo hi; rw [lg_kid0 h, show lg id + 1 = L by omega, Int.sub_self, pw_zero]; omega
              rw [lay_none (id := 2 * id) (.inl (by omega))]; simp
            | succ k => simp at this ⊢; omega
          · rw [lay_none (id := 2 * id) (.inl (by omega))]
            have := i1 (.inr (by omega))
            simp; omega
theorem lay_length {L a b : Int} : ∀ (k : Nat) (id : Int), Nd L id → lg id + k = L → (lay L a b k id).length ≤ max 1 (2 * k) := by
  intro k
  induction k with
  | zero => intro id h _; rw [lay]; split <;> simp
  | succ k ih =>
    intro id h hk
    have hlt : id < pw L := (inner_iff h).2 (by omega)
    have h0 := h.kid0 hlt
    have h1 := h.kid1 hlt
    have e2 := hi_kid0 h hlt
    rw [lay]
    split
    · simp
    · split
      · show 1 ≤ _; omega
      · have k0 := lg_kid0 h
        have k1 := lg_kid1 h
        rw [List.length_append]
        by_cases c3 : hi L (2 * id) ≤ b
        · by_cases c4 : a ≤ lo L (2 * id + 1)
          · have i0 := lay_side (a := a) (b := b) k (2 * id) h0 (by omega) (.inr c3)
            have i1 := lay_side (a := a) (b := b) k (2 * id + 1) h1 (by omega) (.inl c4)
            omega
          · rw [lay_none (id := 2 * id) (.inl (by omega))]
            have := ih (2 * id + 1) h1 (by omega)
            simp; omega
        · rw [lay_none (id := 2 * id + 1) (.inr (by omega))]
          have := ih (2 * id) h0 (by omega)
          simp; omega
theorem tiles_length {L a b : Int} (hL1 : 1 ≤ L) (hL2 : L ≤ 48) (ha : 0 ≤ a) (hab : a ≤ b) (hb : b < pw L) : ((tilesF L a b).length : Int) ≤ 2 * L := by
  rw [← lay_tiles hL1 hL2 ha hab hb]
  have := lay_length (a := a) (b := b) L.toNat 1 (Nd.root hL1 hL2) (by rw [lg_one]; omega)
  omega

/-- What nodes hold. -/
def Cov (L : Int) (T : List Int) (x : Int) : Prop := ∃ t ∈ T, lo L t ≤ x ∧ x ≤ hi L t
theorem cov_cons {L t x : Int} {T : List Int} : Cov L (t :: T) x ↔ (lo L t ≤ x ∧ x ≤ hi L t) ∨ Cov L T x := by
  unfold Cov
  constructor
  · rintro ⟨s, hs, h⟩
    rcases List.mem_cons.1 hs with rfl | hs
    · exact .inl h
    · exact .inr ⟨s, hs, h⟩
  · rintro (h | ⟨s, hs, h⟩)
    · exact ⟨t, by simp, h⟩
    · exact ⟨s, by simp [hs], h⟩
theorem cov_append {L x : Int} {S T : List Int} : Cov L (S ++ T) x ↔ Cov L S x ∨ Cov L T x := by
  unfold Cov
  constructor
  · rintro ⟨s, hs, h⟩
    rcases List.mem_append.1 hs with hs | hs
    · exact .inl ⟨s, hs, h⟩
    · exact .inr ⟨s, hs, h⟩
  · rintro (⟨s, hs, h⟩ | ⟨s, hs, h⟩)
    · exact ⟨s, by simp [hs], h⟩
    · exact ⟨s, by simp [hs], h⟩
theorem Row.cov {L b : Int} : ∀ (r : List Int) (x : Int), Row L b x r → ∀ y, Cov L r y ↔ x ≤ y ∧ y ≤ b
  | [], x, h, y => by
    have : x = b + 1 := h
    constructor
    · rintro ⟨t, ht, _⟩; cases ht
    · omega
  | t :: r, x, h, y => by
    obtain ⟨h1, h2, h3, _, h5⟩ := h
    have ih := Row.cov r _ h5 y
    have hle := lo_le_hi h1
    have hle2 := Row.le r _ h5
    rw [cov_cons, ih]
    omega
/-- The nodes above a node hold it. -/
theorem anc_holds {L : Int} : ∀ (k : Nat) (id : Int), Nd L id → k ≤ lg id → Nd L (id / pw k) ∧ lo L (id / pw k) ≤ lo L id ∧ hi L id ≤ hi L (id / pw k) := by
  intro k
  induction k with
  | zero => intro id h _; rw [show ((0 : Nat) : Int) = 0 from rfl, div_pw_zero]; exact ⟨h, Int.le_refl _, Int.le_refl _⟩
  | succ k ih =>
    intro id h hk
    obtain ⟨i1, i2, i3⟩ := ih id h (by omega)
    have hd := lg_div h.a (show (0 : Int) ≤ (k : Int) by omega) (by omega)
    have h2 : 2 ≤ id / pw k := by
      have := i1.a
      by_cases e : id / pw k = 1
      · rw [e, lg_one] at hd; omega
      · omega
    have e : id / pw ((k + 1 : Nat) : Int) = id / pw k / 2 := by
      rw [show ((k + 1 : Nat) : Int) = (k : Int) + 1 by omega, div_pw_succ _ _ (by omega)]
    rw [e]
    have he := half_ends i1 h2
    have hp : id / pw k % 2 = 0 ∨ id / pw k % 2 = 1 := by omega
    refine ⟨i1.half h2, ?_, ?_⟩ <;> rcases hp with hp | hp
    · have := he.1 hp; omega
    · have := he.2 hp; omega
    · have := he.1 hp; omega
    · have := he.2 hp; omega
/-- Two nodes that hold one value: the same, or one of them holds the half of the other one. -/
theorem nested {L s t x : Int} (hs : Nd L s) (ht : Nd L t) (h1 : lo L s ≤ x ∧ x ≤ hi L s) (h2 : lo L t ≤ x ∧ x ≤ hi L t) :
    s = t ∨ (2 ≤ s ∧ lo L t ≤ lo L (s / 2) ∧ hi L (s / 2) ≤ hi L t) ∨ (2 ≤ t ∧ lo L s ≤ lo L (t / 2) ∧ hi L (t / 2) ≤ hi L s) := by
  have hx0 : 0 ≤ x := by have := lo_nonneg hs; omega
  have hroot := root_ends hs.l1
  have hx1 : x < pw L := by
    have h3 := anc_holds (lg s).toNat s hs (by have := lg_nonneg s; omega)
    have e : s / pw ((lg s).toNat : Int) = 1 := by
      have hn := lg_nonneg s
      rw [show ((lg s).toNat : Int) = lg s by omega]
      have hd := lg_div hs.a hn (Int.le_refl _)
      rw [Int.sub_self] at hd
      have := (lg_spec hd.1)
      rw [hd.2, pw_zero] at this
      omega
    rw [e] at h3
    omega
  have a1 := (above_leaf hs.l1 hs.a hs.b hx0 hx1).2 h1
  have a2 := (above_leaf ht.l1 ht.a ht.b hx0 hx1).2 h2
  have hl := leaf_eq (Nd.leaf hs.l1 hs.l2 hx0 hx1) (by omega)
  unfold aboveB at a1 a2
  rw [decide_eq_true_eq, hl] at a1 a2
  have key : ∀ s t : Int, Nd L s → Nd L t → (pw L + x) / pw (L - lg s) = s → (pw L + x) / pw (L - lg t) = t → lg t < lg s → 2 ≤ s ∧ lo L t ≤ lo L (s / 2) ∧ hi L (s / 2) ≤ hi L t := by
    intro s t hs ht e1 e2 hlt
    have hn := lg_nonneg t
    have hs2 : 2 ≤ s := by
      have := hs.a
      by_cases e : s = 1
      · rw [e, lg_one] at hlt; omega
      · omega
    have hh := hs.half hs2
    have hlh := lg_half hs2
    have e3 : s / 2 / pw (((lg (s / 2) - lg t).toNat : Nat) : Int) = t := by
      have hsl := hs.lg_le
      have htl := ht.lg_le
      rw [show (((lg (s / 2) - lg t).toNat : Nat) : Int) = lg (s / 2) - lg t by omega]
      have : s / 2 = (pw L + x) / pw (L - lg (s / 2)) := by
        rw [show L - lg (s / 2) = (L - lg s) + 1 by omega, div_pw_succ _ _ (by omega), e1]
      have e5 : s / 2 / pw (lg (s / 2) - lg t) = (pw L + x) / pw (L - lg (s / 2)) / pw (lg (s / 2) - lg t) := by rw [← this]
      rw [e5, Int.ediv_ediv_of_nonneg (by have := pw_pos (L - lg (s / 2)); omega), ← pw_add (by omega) (by omega)]
      rw [show L - lg (s / 2) + (lg (s / 2) - lg t) = L - lg t by omega, e2]
    have := anc_holds (lg (s / 2) - lg t).toNat (s / 2) hh (by omega)
    rw [e3] at this
    exact ⟨hs2, this.2.1, this.2.2⟩
  rcases Int.lt_trichotomy (lg s) (lg t) with hlt | he | hlt
  · exact .inr (.inr (key t s ht hs a2.2.2.2 a1.2.2.2 hlt))
  · left
    rw [← a1.2.2.2, he, a2.2.2.2]
  · exact .inr (.inl (key s t hs ht a1.2.2.2 a2.2.2.2 hlt))

/-- The fewest tiles of some values: rising, apart, and no tile's half is all held. -/
structure Canon (L : Int) (S : Int → Prop) (T : List Int) : Prop where
  nd : ∀ t ∈ T, Nd L t
  apart : Apart L T
  cov : ∀ x, Cov L T x ↔ S x
  most : ∀ t ∈ T, 2 ≤ t → ¬ ∀ x, lo L (t / 2) ≤ x → x ≤ hi L (t / 2) → S x
theorem Canon.sub {L : Int} {S : Int → Prop} {T T' : List Int} (h : Canon L S T) (k : Canon L S T') (t : Int) (ht : t ∈ T) : t ∈ T' := by
  have hN := h.nd t ht
  have hle := lo_le_hi hN
  have hS : ∀ x, lo L t ≤ x → x ≤ hi L t → S x := fun x h1 h2 => (h.cov x).1 ⟨t, ht, h1, h2⟩
  obtain ⟨t', ht', h1⟩ := (k.cov (lo L t)).2 (hS _ (Int.le_refl _) hle)
  have hN' := k.nd t' ht'
  have hS' : ∀ x, lo L t' ≤ x → x ≤ hi L t' → S x := fun x h1 h2 => (k.cov x).1 ⟨t', ht', h1, h2⟩
  rcases nested hN hN' ⟨Int.le_refl _, hle⟩ h1 with rfl | ⟨g1, g2, g3⟩ | ⟨g1, g2, g3⟩
  · exact ht'
  · exact absurd (fun x h3 h4 => hS' x (by omega) (by omega)) (h.most t ht g1)
  · exact absurd (fun x h3 h4 => hS x (by omega) (by omega)) (k.most t' ht' g1)
theorem apart_ext {L : Int} : ∀ (T T' : List Int), Apart L T → Apart L T' → (∀ t ∈ T, Nd L t) → (∀ t ∈ T', Nd L t) → (∀ t, t ∈ T ↔ t ∈ T') → T = T'
  | [], [], _, _, _, _, _ => rfl
  | [], t :: T', _, _, _, _, h => absurd ((h t).2 (by simp)) (by simp)
  | t :: T, [], _, _, _, _, h => absurd ((h t).1 (by simp)) (by simp)
  | t :: T, t' :: T', h1, h2, n1, n2, h => by
    have h1' := List.pairwise_cons.1 h1
    have h2' := List.pairwise_cons.1 h2
    have e : t = t' := by
      have m1 := (h t).1 (by simp)
      have m2 := (h t').2 (by simp)
      rcases List.mem_cons.1 m1 with e | m1
      · exact e
      · rcases List.mem_cons.1 m2 with e | m2
        · exact e.symm
        · have := h1'.1 t' m2
          have := h2'.1 t m1
          have := lo_le_hi (n1 t (by simp))
          have := lo_le_hi (n2 t' (by simp))
          omega
    subst e
    have hnot : ∀ {S : List Int}, (∀ s ∈ S, hi L t < lo L s) → t ∉ S := fun hS hm => by
      have := hS t hm
      have := lo_le_hi (n1 t (by simp))
      omega
    rw [apart_ext T T' h1'.2 h2'.2 (fun s hs => n1 s (by simp [hs])) (fun s hs => n2 s (by simp [hs])) fun s => by
      have := h s
      simp only [List.mem_cons] at this
      constructor
      · intro hs
        rcases this.1 (.inr hs) with rfl | k
        · exact absurd hs (hnot h1'.1)
        · exact k
      · intro hs
        rcases this.2 (.inr hs) with rfl | k
        · exact absurd hs (hnot h2'.1)
        · exact k]
theorem Canon.unique {L : Int} {S : Int → Prop} {T T' : List Int} (h : Canon L S T) (k : Canon L S T') : T = T' :=
  apart_ext T T' h.apart k.apart h.nd k.nd fun t => ⟨h.sub k t, k.sub h t⟩
theorem Canon.congr {L : Int} {S S' : Int → Prop} {T : List Int} (h : Canon L S T) (hS : ∀ x, S x ↔ S' x) : Canon L S' T :=
  ⟨h.nd, h.apart, fun x => (h.cov x).trans (hS x), fun t ht h2 k => h.most t ht h2 fun x h3 h4 => (hS x).2 (k x h3 h4)⟩

/-- A node that is held, but by no one tile, has two tiles that make a pair. -/
theorem pair_in {L : Int} {T : List Int} (hT : ∀ t ∈ T, Nd L t) : ∀ (k : Nat) (id : Int), Nd L id → lg id + k = L → (∀ x, lo L id ≤ x → x ≤ hi L id → Cov L T x) →
    (∀ t ∈ T, ¬ (lo L t ≤ lo L id ∧ hi L id ≤ hi L t)) → ∃ t ∈ T, t % 2 = 0 ∧ t + 1 ∈ T := by
  intro k
  induction k with
  | zero =>
    intro id h hk hc hn
    have hleaf : lo L id = hi L id := by unfold lo hi; rw [show lg id = L by omega, Int.sub_self, pw_zero]; omega
    obtain ⟨t, ht, h1⟩ := hc (lo L id) (Int.le_refl _) (by omega)
    exact absurd ⟨h1.1, by omega⟩ (hn t ht)
  | succ k ih =>
    intro id h hk hc hn
    have hlt : id < pw L := (inner_iff h).2 (by omega)
    have h0 := h.kid0 hlt
    have h1 := h.kid1 hlt
    have e1 := lo_kid0 h hlt
    have e2 := hi_kid0 h hlt
    have e3 := hi_kid1 h hlt
    have e4 := lo_le_hi h0
    have e5 := lo_le_hi h1
    have only : ∀ c : Int, Nd L c → 2 ≤ c → c / 2 = id → ∀ t ∈ T, (lo L t ≤ lo L c ∧ hi L c ≤ hi L t) → t = c := by
      intro c hc2 h2 hh t ht hin
      have hcl := lo_le_hi hc2
      rcases nested hc2 (hT t ht) ⟨Int.le_refl _, hcl⟩ ⟨hin.1, by omega⟩ with e | ⟨_, g2, g3⟩ | ⟨g1, g2, g3⟩
      · exact e.symm
      · rw [hh] at g2 g3
        exact absurd ⟨g2, g3⟩ (hn t ht)
      · have hh2 := half_ends (hT t ht) g1
        have hp : t % 2 = 0 ∨ t % 2 = 1 := by omega
        have htl := lo_le_hi (hT t ht)
        rcases hp with hp | hp
        · have := hh2.1 hp
          have hb2 := hi_kid0 ((hT t ht).half g1) (by have := (hT t ht).b; omega)
          have hb3 := hi_kid1 ((hT t ht).half g1) (by have := (hT t ht).b; omega)
          have hb4 := lo_le_hi (((hT t ht).half g1).kid1 (by have := (hT t ht).b; omega))
          rw [show 2 * (t / 2) = t by omega] at hb2 hb3 hb4
          omega
        · have := hh2.2 hp; omega
    by_cases c0 : ∀ t ∈ T, ¬ (lo L t ≤ lo L (2 * id) ∧ hi L (2 * id) ≤ hi L t)
    · exact ih (2 * id) h0 (by rw [lg_kid0 h]; omega) (fun x g1 g2 => hc x (by omega) (by omega)) c0
    · by_cases c1 : ∀ t ∈ T, ¬ (lo L t ≤ lo L (2 * id + 1) ∧ hi L (2 * id + 1) ≤ hi L t)
      · exact ih (2 * id + 1) h1 (by rw [lg_kid1 h]; omega) (fun x g1 g2 => hc x (by omega) (by omega)) c1
      · simp only [Classical.not_forall, Classical.not_not] at c0 c1
        obtain ⟨s, hs, g0⟩ := c0
        obtain ⟨t, ht, g1⟩ := c1
        have es := only (2 * id) h0 (by have := h.a; omega) (by omega) s hs g0
        have et := only (2 * id + 1) h1 (by have := h.a; omega) (by omega) t ht g1
        subst es et
        exact ⟨_, hs, by omega, ht⟩
/-- Rising tiles, apart, none of which make a pair: the fewest of what they hold. -/
theorem canon_of {L : Int} {T : List Int} (hT : ∀ t ∈ T, Nd L t) (ha : Apart L T) (hp : ∀ t ∈ T, t % 2 = 0 → t + 1 ∉ T) : Canon L (Cov L T) T := by
  refine ⟨hT, ha, fun x => Iff.rfl, fun t ht h2 hall => ?_⟩
  have hN := (hT t ht).half h2
  have hle := lo_le_hi (hT t ht)
  have hll := hN.lg_le
  have hout : ∀ s ∈ T, ¬ (lo L s ≤ lo L (t / 2) ∧ hi L (t / 2) ≤ hi L s) := by
    intro s hs hin
    have he := half_ends (hT t ht) h2
    have hcov : lo L s ≤ lo L t ∧ hi L t ≤ hi L s ∧ ¬ (lo L s = lo L t ∧ hi L s = hi L t) := by
      have hb2 := hi_kid0 hN (by have := (hT t ht).b; omega)
      have hb3 := hi_kid1 hN (by have := (hT t ht).b; omega)
      have hb4 := lo_le_hi (hN.kid1 (by have := (hT t ht).b; omega))
      have hp : t % 2 = 0 ∨ t % 2 = 1 := by omega
      rcases hp with hp | hp
      · have := he.1 hp
        rw [show 2 * (t / 2) = t by omega] at hb2 hb3 hb4
        omega
      · have := he.2 hp; omega
    have hne : s ≠ t := fun e => by subst e; exact hcov.2.2 ⟨rfl, rfl⟩
    have hsl := lo_le_hi (hT s hs)
    have hpw : ∀ a b, a ∈ T → b ∈ T → a ≠ b → hi L a < lo L b ∨ hi L b < lo L a := fun a b h1 h2 hab => by
      have : ∀ (T : List Int), Apart L T → a ∈ T → b ∈ T → hi L a < lo L b ∨ hi L b < lo L a := by
        intro T
        induction T with
        | nil => intro _ h; cases h
        | cons c T ih =>
          intro hA h1 h2
          have hA' := List.pairwise_cons.1 hA
          rcases List.mem_cons.1 h1 with e1 | h1 <;> rcases List.mem_cons.1 h2 with e2 | h2
          · exact absurd (e1.trans e2.symm) hab
          · exact .inl (by rw [e1]; exact hA'.1 b h2)
          · exact .inr (by rw [e2]; exact hA'.1 a h1)
          · exact ih hA'.2 h1 h2
      exact this T ha h1 h2
    rcases hpw s t hs ht hne with k | k <;> omega
  obtain ⟨s, hs, h3, h4⟩ := pair_in hT (L - lg (t / 2)).toNat (t / 2) hN (by omega) hall hout
  exact hp s hs h3 h4
end TileM
end Go.Proofs.Ytbibchdjojmpaaa

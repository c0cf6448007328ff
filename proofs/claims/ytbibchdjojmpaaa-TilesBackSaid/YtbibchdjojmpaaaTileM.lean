/- Plain facts on tiles: a run of values laid out by nodes, from the root down and from left to right: the same. No program in sight. By the prover of this repo. -/
import Derived.Test.YtbibchdjojmpaaaTwigM
namespace Go.Proofs.Ytbibchdjojmpaaa
namespace TileM
open TwigM

/-- The ends of a node. -/
def lo (L id : Int) : Int := loF L id
def hi (L id : Int) : Int := loF L id + pw (L - lg id) - 1
structure Nd (L id : Int) : Prop where
  l1 : 1 ≤ L
  l2 : L ≤ 48
  a : 1 ≤ id
  b : id < 2 * pw L
section
variable {L id : Int}
theorem Nd.lg_le (h : Nd L id) : lg id ≤ L := (TwigM.lg_le h.a (by have := h.l1; omega)).2 h.b
theorem Nd.root (h1 : 1 ≤ L) (h2 : L ≤ 48) : Nd L 1 := ⟨h1, h2, by omega, by have := pw_pos L; omega⟩
theorem Nd.half (h : Nd L id) (h2 : 2 ≤ id) : Nd L (id / 2) := ⟨h.l1, h.l2, by omega, by have := h.b; omega⟩
theorem Nd.kid0 (h : Nd L id) (h2 : id < pw L) : Nd L (2 * id) := ⟨h.l1, h.l2, by have := h.a; omega, by omega⟩
theorem Nd.kid1 (h : Nd L id) (h2 : id < pw L) : Nd L (2 * id + 1) := ⟨h.l1, h.l2, by have := h.a; omega, by omega⟩
theorem Nd.leaf {x : Int} (h1 : 1 ≤ L) (h2 : L ≤ 48) (h3 : 0 ≤ x) (h4 : x < pw L) : Nd L (pw L + x) := ⟨h1, h2, by have := pw_pos L; omega, by omega⟩
theorem inner_iff (h : Nd L id) : id < pw L ↔ lg id < L := (lg_lt h.a (by have := h.l1; omega)).symm
theorem lg_kid0 (h : Nd L id) : lg (2 * id) = lg id + 1 := by
  have := lg_half (n := 2 * id) (by have := h.a; omega)
  rw [this, show 2 * id / 2 = id by omega]
theorem lg_kid1 (h : Nd L id) : lg (2 * id + 1) = lg id + 1 := by
  have := lg_half (n := 2 * id + 1) (by have := h.a; omega)
  rw [this, show (2 * id + 1) / 2 = id by omega]
theorem pw_kid (h : lg id < L) : pw (L - lg id) = 2 * pw (L - (lg id + 1)) := by
  rw [← pw_succ (by omega)]; congr 1; omega
theorem lo_kid0 (h : Nd L id) (h2 : id < pw L) : lo L (2 * id) = lo L id := by
  have hl := (inner_iff h).1 h2
  unfold lo loF
  rw [lg_kid0 h, pw_succ (lg_nonneg id), pw_kid hl, ← Int.mul_sub]
  simp [Int.mul_assoc, Int.mul_left_comm]
theorem lo_kid1 (h : Nd L id) (h2 : id < pw L) : lo L (2 * id + 1) = lo L id + pw (L - (lg id + 1)) := by
  have hl := (inner_iff h).1 h2
  unfold lo loF
  rw [lg_kid1 h, pw_succ (lg_nonneg id), pw_kid hl]
  generalize pw (L - (lg id + 1)) = p
  generalize pw (lg id) = q
  rw [show 2 * id + 1 - 2 * q = 2 * (id - q) + 1 by omega, Int.add_mul, Int.one_mul, Int.mul_assoc, Int.mul_left_comm]
theorem hi_kid0 (h : Nd L id) (h2 : id < pw L) : hi L (2 * id) + 1 = lo L (2 * id + 1) := by
  have := lo_kid0 h h2
  rw [lo_kid1 h h2]
  unfold hi
  unfold lo at this
  rw [this, lg_kid0 h]
  unfold lo
  omega
theorem hi_kid1 (h : Nd L id) (h2 : id < pw L) : hi L (2 * id + 1) = hi L id := by
  have hl := (inner_iff h).1 h2
  have h1 := lo_kid1 h h2
  have h3 := pw_kid hl
  unfold lo at h1
  unfold hi
  rw [h1, lg_kid1 h, h3]
  omega
theorem lo_le_hi (h : Nd L id) : lo L id ≤ hi L id := by have := pw_pos (L - lg id); unfold lo hi; omega
theorem lo_nonneg (h : Nd L id) : 0 ≤ lo L id := by
  have h1 := (lg_spec h.a).1
  have h2 := pw_pos (L - lg id)
  exact Int.mul_nonneg (by omega) (by omega)
theorem leaf_eq (h : Nd L id) (h2 : pw L ≤ id) : lg id = L := lg_unique (by have := h.l1; omega) h2 h.b
theorem leaf_ends {x : Int} (h1 : 1 ≤ L) (h2 : L ≤ 48) (h3 : 0 ≤ x) (h4 : x < pw L) : lo L (pw L + x) = x ∧ hi L (pw L + x) = x := by
  have hN := Nd.leaf h1 h2 h3 h4
  have hl := leaf_eq hN (by omega)
  unfold lo hi loF
  rw [hl, Int.sub_self, pw_zero]
  omega
theorem root_ends (h1 : 1 ≤ L) : lo L 1 = 0 ∧ hi L 1 = pw L - 1 := by
  unfold lo hi loF
  rw [lg_one, pw_zero, Int.sub_zero]
  omega
/-- A node's half lies about it. -/
theorem half_ends (h : Nd L id) (h2 : 2 ≤ id) : (id % 2 = 0 → lo L (id / 2) = lo L id ∧ hi L id ≤ hi L (id / 2)) ∧ (id % 2 = 1 → lo L (id / 2) ≤ lo L id - 1 ∧ hi L (id / 2) = hi L id) := by
  have hN := h.half h2
  have hb := h.b
  have hlt : id / 2 < pw L := by omega
  constructor
  · intro he
    have e : id = 2 * (id / 2) := by omega
    have h1 := lo_kid0 hN hlt
    have h3 := hi_kid0 hN hlt
    have h4 := hi_kid1 hN hlt
    have h5 := lo_le_hi (hN.kid1 hlt)
    rw [← e] at h1 h3 h4 h5
    omega
  · intro he
    have e : id = 2 * (id / 2) + 1 := by omega
    have h1 := lo_kid0 hN hlt
    have h3 := hi_kid0 hN hlt
    have h4 := hi_kid1 hN hlt
    have h5 := lo_le_hi (hN.kid0 hlt)
    rw [← e] at h3 h4
    omega
end

/-- From a node up, as long as it is a left one and the one above goes no further than b. -/
def upT (L b : Int) (id : Int) : Int :=
  if h : 2 ≤ id ∧ id % 2 = 0 ∧ hi L (id / 2) ≤ b then upT L b (id / 2) else id
termination_by id.toNat
decreasing_by omega
/-- From left to right. -/
def greedy (L b : Int) (n : Nat) (at_ : Int) : List Int :=
  match n with
  | 0 => []
  | n + 1 => if b < at_ then [] else let t := upT L b (pw L + at_); t :: greedy L b n (hi L t + 1)
/-- From the root down. -/
def lay (L a b : Int) (n : Nat) (id : Int) : List Int :=
  match n with
  | 0 => if hi L id < a ∨ b < lo L id then [] else [id]
  | n + 1 => if hi L id < a ∨ b < lo L id then [] else if a ≤ lo L id ∧ hi L id ≤ b then [id] else lay L a b n (2 * id) ++ lay L a b n (2 * id + 1)

theorem upT_on {L b id : Int} (h : 2 ≤ id ∧ id % 2 = 0 ∧ hi L (id / 2) ≤ b) : upT L b id = upT L b (id / 2) := by rw [upT, dif_pos h]
theorem upT_off {L b id : Int} (h : ¬ (2 ≤ id ∧ id % 2 = 0 ∧ hi L (id / 2) ≤ b)) : upT L b id = id := by rw [upT, dif_neg h]

/-- What going up keeps: the least value; a node that goes no further than b; and above it none such. -/
theorem upT_spec {L b : Int} : ∀ (k : Nat) (id : Int), id.toNat ≤ k → Nd L id → hi L id ≤ b → Nd L (upT L b id) ∧ lo L (upT L b id) = lo L id ∧ hi L (upT L b id) ≤ b ∧ hi L id ≤ hi L (upT L b id) ∧ ¬ (2 ≤ upT L b id ∧ upT L b id % 2 = 0 ∧ hi L (upT L b id / 2) ≤ b) := by
  intro k
  induction k with
  | zero => intro id hk h _; have := h.a; omega
  | succ k ih =>
    intro id hk h hb
    by_cases hc : 2 ≤ id ∧ id % 2 = 0 ∧ hi L (id / 2) ≤ b
    · rw [upT_on hc]
      have he := (half_ends h hc.1).1 hc.2.1
      obtain ⟨h1, h2, h3, h4, h5⟩ := ih (id / 2) (by omega) (h.half hc.1) hc.2.2
      exact ⟨h1, by rw [h2, he.1], h3, by omega, h5⟩
    · rw [upT_off hc]
      exact ⟨h, rfl, hb, by omega, hc⟩
/-- From the leaf of a node's least value one goes up to it at least. -/
theorem upT_left {L b : Int} : ∀ (k : Nat) (id : Int), Nd L id → lg id + k = L → hi L id ≤ b → upT L b (pw L + lo L id) = upT L b id := by
  intro k
  induction k with
  | zero =>
    intro id h hk _
    have e : pw L + lo L id = id := by
      unfold lo loF
      rw [show lg id = L by omega, Int.sub_self, pw_zero]; omega
    rw [e]
  | succ k ih =>
    intro id h hk hb
    have hlt : id < pw L := (inner_iff h).2 (by omega)
    have h0 := h.kid0 hlt
    have e1 := lo_kid0 h hlt
    have e2 := hi_kid0 h hlt
    have e3 := hi_kid1 h hlt
    have e4 := lo_le_hi (h.kid1 hlt)
    have := ih (2 * id) h0 (by rw [lg_kid0 h]; omega) (by omega)
    rw [← e1, this, upT_on ⟨by have := h.a; omega, by omega, by rw [show 2 * id / 2 = id by omega]; exact hb⟩, show 2 * id / 2 = id by omega]

theorem greedy_more {L b : Int} (hL1 : 1 ≤ L) (hL2 : L ≤ 48) (hb : b < pw L) : ∀ (n m : Nat) (x : Int), 0 ≤ x → (b + 1 - x).toNat ≤ n → (b + 1 - x).toNat ≤ m → greedy L b n x = greedy L b m x := by
  intro n
  induction n with
  | zero =>
    intro m x hx h1 _
    cases m with
    | zero => rfl
    | succ m => rw [greedy, greedy, if_pos (by omega)]
  | succ n ih =>
    intro m x hx h1 h2
    cases m with
    | zero => rw [greedy, greedy, if_pos (by omega)]
    | succ m =>
      rw [greedy, greedy]
      by_cases h : b < x
      · rw [if_pos h, if_pos h]
      · rw [if_neg h, if_neg h]
        have hle := leaf_ends hL1 hL2 hx (show x < pw L by omega)
        have hs := upT_spec (L := L) (b := b) _ _ (Nat.le_refl _) (Nd.leaf hL1 hL2 hx (by omega)) (by omega)
        have := ih m (hi L (upT L b (pw L + x)) + 1) (by omega) (by omega) (by omega)
        simp only [this]

/-- Laid from a node down is what stands in its values, from left to right. -/
theorem lay_greedy {L a b : Int} (hL1 : 1 ≤ L) (hL2 : L ≤ 48) (ha : 0 ≤ a) (hb : b < pw L) : ∀ (k : Nat) (id : Int), Nd L id → lg id + k = L → a ≤ hi L id →
    (2 ≤ id → ¬ (a ≤ lo L (id / 2) ∧ hi L (id / 2) ≤ b)) → ∀ n : Nat, (b + 1 - max a (lo L id)).toNat ≤ n → greedy L b n (max a (lo L id)) = lay L a b k id ++ greedy L b n (hi L id + 1) := by
  intro k
  induction k with
  | zero =>
    intro id h hk ha2 hp n hn
    have hleaf : lo L id = hi L id := by unfold lo hi; rw [show lg id = L by omega, Int.sub_self, pw_zero]; omega
    have hl0 := lo_nonneg h
    rw [lay]
    by_cases h1 : b < lo L id
    · rw [if_pos (.inr h1)]
      cases n with
      | zero => rfl
      | succ n => rw [greedy, greedy, if_pos (by omega), if_pos (by omega)]; rfl
    · rw [if_neg (by omega)]
      have em : max a (lo L id) = lo L id := by omega
      rw [em] at hn ⊢
      cases n with
      | zero => omega
      | succ n =>
        have hu := upT_left (L := L) (b := b) 0 id h hk (by omega)
        have hoff : upT L b id = id := upT_off fun hc => hp hc.1 ⟨by have := (half_ends h hc.1).1 hc.2.1; omega, hc.2.2⟩
        rw [greedy, if_neg (by omega)]
        simp only [hu, hoff]
        rw [greedy_more hL1 hL2 hb n (n + 1) (hi L id + 1) (by omega) (by omega) (by omega)]
        rfl
  | succ k ih =>
    intro id h hk ha2 hp n hn
    have hlt : id < pw L := (inner_iff h).2 (by omega)
    have h0 := h.kid0 hlt
    have h1 := h.kid1 hlt
    have e1 := lo_kid0 h hlt
    have e2 := hi_kid0 h hlt
    have e3 := hi_kid1 h hlt
    have e4 := lo_le_hi h0
    have e5 := lo_le_hi h1
    have hl0 := lo_nonneg h
    rw [lay]
    by_cases c1 : b < lo L id
    · rw [if_pos (.inr c1)]
      cases n with
      | zero => rfl
      | succ n => rw [greedy, greedy, if_pos (by omega), if_pos (by omega)]; rfl
    · rw [if_neg (by omega)]
      by_cases c2 : a ≤ lo L id ∧ hi L id ≤ b
      · rw [if_pos c2]
        have em : max a (lo L id) = lo L id := by omega
        rw [em] at hn ⊢
        cases n with
        | zero => omega
        | succ n =>
          have hu := upT_left (L := L) (b := b) (k + 1) id h hk c2.2
          have hoff : upT L b id = id := upT_off fun hc => hp hc.1 ⟨by have := (half_ends h hc.1).1 hc.2.1; omega, hc.2.2⟩
          rw [greedy, if_neg (by omega)]
          simp only [hu, hoff]
          rw [greedy_more hL1 hL2 hb n (n + 1) (hi L id + 1) (by omega) (by omega) (by omega)]
          rfl
      · rw [if_neg c2]
        have hk0 : lg (2 * id) + k = L := by rw [lg_kid0 h]; omega
        have hk1 : lg (2 * id + 1) + k = L := by rw [lg_kid1 h]; omega
        have hp0 : 2 ≤ 2 * id → ¬ (a ≤ lo L (2 * id / 2) ∧ hi L (2 * id / 2) ≤ b) := fun _ => by rw [show 2 * id / 2 = id by omega]; exact c2
        have hp1 : 2 ≤ 2 * id + 1 → ¬ (a ≤ lo L ((2 * id + 1) / 2) ∧ hi L ((2 * id + 1) / 2) ≤ b) := fun _ => by rw [show (2 * id + 1) / 2 = id by omega]; exact c2
        by_cases c3 : a ≤ hi L (2 * id)
        · have i0 := ih (2 * id) h0 hk0 c3 hp0 n (by rw [e1]; exact hn)
          rw [e1] at i0
          have em : max a (lo L (2 * id + 1)) = lo L (2 * id + 1) := by omega
          have i1 := ih (2 * id + 1) h1 hk1 (by omega) hp1 n (by rw [em]; omega)
          rw [em, ← e2] at i1
          rw [i0, i1, e3, List.append_assoc]
        · have hz : lay L a b k (2 * id) = [] := by
            cases k with
            | zero => rw [lay, if_pos (.inl (by omega))]
            | succ k => rw [lay, if_pos (.inl (by omega))]
          have em : max a (lo L id) = max a (lo L (2 * id + 1)) := by omega
          have i1 := ih (2 * id + 1) h1 hk1 (by omega) hp1 n (by rw [← em]; exact hn)
          rw [hz, List.nil_append, em, i1, e3]

/-- The fewest tiles of a run. -/
def tilesF (L a b : Int) : List Int := greedy L b (b + 1 - a).toNat a
theorem lay_tiles {L a b : Int} (hL1 : 1 ≤ L) (hL2 : L ≤ 48) (ha : 0 ≤ a) (hab : a ≤ b) (hb : b < pw L) : lay L a b L.toNat 1 = tilesF L a b := by
  have hr := root_ends hL1
  have := lay_greedy hL1 hL2 ha hb L.toNat 1 (Nd.root hL1 hL2) (by rw [lg_one]; omega) (by omega) (fun h => by omega) (b + 1 - a).toNat (by omega)
  have em : max a (lo L 1) = a := by omega
  rw [em] at this
  have hz : greedy L b (b + 1 - a).toNat (hi L 1 + 1) = [] := by
    cases hn : (b + 1 - a).toNat with
    | zero => rfl
    | succ n => rw [greedy, if_pos (by omega)]
  rw [hz, List.append_nil] at this
  exact this.symm
end TileM
end Go.Proofs.Ytbibchdjojmpaaa

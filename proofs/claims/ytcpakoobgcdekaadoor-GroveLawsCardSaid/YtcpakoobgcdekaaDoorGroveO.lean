/- Trees: the order has each sensor once, behind all below it; the children of one are below apart. Plain facts. By the prover of this repo. -/
import Derived.Test.YtcpakoobgcdekaaDoorGroveN
namespace Go.Proofs.YtcpakoobgcdekaaDoor

/-- All that is below each one stands ahead of it. -/
def Cl (W : Nat → List Nat) (l : List Nat) : Prop := ∀ a x b, l = a ++ x :: b → ∀ j ∈ W x, j = x ∨ j ∈ a
theorem Cl.nil (W : Nat → List Nat) : Cl W [] := fun a x b h => by simp at h
theorem Cl.append {W : Nat → List Nat} {l m : List Nat} (h : Cl W l) (k : Cl W m) : Cl W (l ++ m) := fun a x b e j hj => by
  rcases List.append_eq_append_iff.1 e with ⟨c, rfl, e2⟩ | ⟨c, rfl, e2⟩
  · rcases k c x b e2 j hj with h1 | h1
    · exact .inl h1
    · exact .inr (by simp [h1])
  · cases c with
    | nil =>
      rcases k [] x b (by simpa using e2.symm) j hj with h1 | h1
      · exact .inl h1
      · cases h1
    | cons y c =>
      simp only [List.cons_append, List.cons.injEq] at e2
      obtain ⟨rfl, rfl⟩ := e2
      exact h a x c rfl j hj
theorem Cl.snoc {W : Nat → List Nat} {l : List Nat} {i : Nat} (h : Cl W l) (hi : ∀ j ∈ W i, j = i ∨ j ∈ l) : Cl W (l ++ [i]) := fun a x b e j hj => by
  rcases List.append_eq_append_iff.1 e with ⟨c, rfl, e2⟩ | ⟨c, rfl, e2⟩
  · cases c with
    | nil =>
      simp only [List.nil_append, List.cons.injEq] at e2
      obtain ⟨rfl, rfl⟩ := e2
      simpa using hi j hj
    | cons y c => simp at e2
  · cases c with
    | nil =>
      simp only [List.nil_append, List.cons.injEq] at e2
      obtain ⟨rfl, rfl⟩ := e2
      simpa using hi j hj
    | cons y c =>
      simp only [List.cons_append, List.cons.injEq] at e2
      obtain ⟨rfl, rfl⟩ := e2
      exact h a x c rfl j hj
theorem walk_stab {p : List Int} (hW : Ways p) {i : Nat} (hi : i < p.length) : ∀ d m : Nat, m + d = 48 → Hgt p m i → walkF p 48 i = walkF p m i
  | 0, m, e, _ => by rw [show m = 48 by omega]
  | d + 1, m, e, h => by
    have h1 := (hgt_of_ways hW hi).2 m h
    rw [walk_stab hW hi d (m + 1) (by omega) h1.1, h1.2]
theorem walk_kids {p : List Int} (hW : Ways p) {i : Nat} (hi : i < p.length) : walkF p 48 i = (kidsL p (i : Int)).flatMap (walkF p 48) ++ [i] := by
  have hg := (hgt_of_ways hW hi).1
  obtain ⟨q, hq⟩ : ∃ q, q + 1 = 48 := ⟨47, by omega⟩
  have hg2 : Hgt p (q + 1) i := by rw [hq]; exact hg
  have h : ∀ l : List Nat, (∀ k ∈ l, k ∈ kidsL p (i : Int)) → l.flatMap (walkF p q) = l.flatMap (walkF p 48) := by
    intro l
    induction l with
    | nil => intro _; rfl
    | cons a l ih =>
      intro hl
      have ha := hl a (by simp)
      have hk := (hgt_kid hg2 ha).2
      rw [Nat.add_sub_cancel] at hk
      rw [List.flatMap_cons, List.flatMap_cons, ih (fun k hk => hl k (by simp [hk])), walk_stab hW (kidsL_mem.1 ha).1 1 q hq hk]
  have e := walk_eq hg2
  rw [Nat.add_sub_cancel, h _ (fun k hk => hk), hq] at e
  exact e
theorem walk_closed {p : List Int} (hW : Ways p) : ∀ (m i : Nat), i < p.length → m ≤ 48 → Hgt p m i → Cl (walkF p 48) (walkF p m i)
  | m, i, hi, hm, hg => by
    have e : walkF p m i = (kidsL p (i : Int)).flatMap (walkF p (m - 1)) ++ [i] := walk_eq hg
    have e48 := walk_stab hW hi (48 - m) m (by omega) hg
    rw [e]
    refine Cl.snoc ?_ fun j hj => ?_
    · have h : ∀ l : List Nat, (∀ k ∈ l, k ∈ kidsL p (i : Int)) → Cl (walkF p 48) (l.flatMap (walkF p (m - 1))) := by
        intro l
        induction l with
        | nil => intro _; exact Cl.nil _
        | cons a l ih =>
          intro hl
          have ha := hl a (by simp)
          have hk := hgt_kid hg ha
          have : m - 1 < m := by omega
          rw [List.flatMap_cons]
          exact (walk_closed hW (m - 1) a (kidsL_mem.1 ha).1 (by omega) hk.2).append (ih fun k hk => hl k (by simp [hk]))
      exact h _ fun k hk => hk
    · rw [e48, e, List.mem_append, List.mem_singleton] at hj
      exact hj.symm
  termination_by m => m

theorem upF_root {p : List Int} : ∀ {m : Nat} {i : Int} {w : List Int}, 0 ≤ i → i < p.length → upF p m i = some w → ∃ r : Nat, (r : Int) ∈ w ∧ r < p.length ∧ p.getD r 0 = -1
  | 0, i, w, _, _, h => by cases h
  | m + 1, i, w, h0, h9, h => by
    rw [upF_succ] at h
    by_cases h1 : p.getD i.toNat 0 = -1
    · rw [if_pos h1] at h
      cases h
      exact ⟨i.toNat, by rw [Int.toNat_of_nonneg h0]; simp, by omega, h1⟩
    · rw [if_neg h1] at h
      by_cases h2 : p.getD i.toNat 0 < 0 ∨ (p.length : Int) ≤ p.getD i.toNat 0
      · rw [if_pos h2] at h; cases h
      · rw [if_neg h2] at h
        obtain ⟨v, hv, rfl⟩ := Option.map_eq_some_iff.1 h
        obtain ⟨r, hr, h3⟩ := upF_root (by omega) (by omega) hv
        exact ⟨r, by simp [hr], h3⟩
theorem rootG_mono (p : List Int) : ∀ (d k : Nat), k + d ≤ p.length → rootG p k ≤ rootG p (k + d)
  | 0, k, _ => Nat.le_refl _
  | d + 1, k, h => by
    have h1 := rootG_mono p d k (by omega)
    rw [show k + (d + 1) = (k + d) + 1 by omega, rootG_succ p (k + d) (by omega)]
    omega
theorem root_one {p : List Int} (h : rootsF p = 1) {a b : Nat} (ha : a < p.length) (hb : b < p.length) (h1 : p.getD a 0 = -1) (h2 : p.getD b 0 = -1) : a = b := by
  have key : ∀ a b : Nat, a < b → b < p.length → p.getD a 0 = -1 → p.getD b 0 = -1 → False := by
    intro a b hab hb h1 h2
    have e1 := rootG_succ p a (by omega)
    have e2 := rootG_succ p b hb
    rw [if_pos h1] at e1
    rw [if_pos h2] at e2
    have m1 := rootG_mono p (b - (a + 1)) (a + 1) (by omega)
    have m2 := rootG_mono p (p.length - (b + 1)) (b + 1) (by omega)
    rw [show a + 1 + (b - (a + 1)) = b by omega] at m1
    rw [show b + 1 + (p.length - (b + 1)) = p.length by omega, rootG_all, h] at m2
    omega
  rcases Nat.lt_trichotomy a b with h | h | h
  · exact (key a b h hb h1 h2).elim
  · exact h
  · exact (key b a h ha h2 h1).elim
/-- The order has each sensor. -/
theorem order_mem {p : List Int} (hb : rightF p = true) (j : Nat) : j ∈ walkF p 48 (rootK p) ↔ j < p.length := by
  obtain ⟨hW, _, h48, hro⟩ := ways_of_right hb
  obtain ⟨hk, hk1, _⟩ := first_root hro
  have hg := (hgt_of_ways hW hk).1
  constructor
  · intro h
    exact (walk_mem hW 48 (rootK p) j hk hg h).1
  · intro h
    obtain ⟨w, hw⟩ := hW j h
    obtain ⟨r, hr, hr1, hr2⟩ := upF_root (by omega) (by omega) hw
    have := root_one hro hr1 hk hr2 hk1
    subst this
    exact walk_mem' hW h hw 48 _ hg hr
theorem nodup_card : ∀ (n : Nat) (l : List Nat), l.Nodup → (∀ j, j ∈ l ↔ j < n) → l.length = n
  | 0, l, _, h => by
    cases l with
    | nil => rfl
    | cons a l => have := (h a).1 (by simp); omega
  | n + 1, l, hn, h => by
    have hm : n ∈ l := (h n).2 (by omega)
    have := nodup_card n (l.erase n) (hn.erase n) fun j => by
      rw [hn.mem_erase_iff, h]
      constructor
      · rintro ⟨h1, h2⟩; omega
      · intro h1; exact ⟨by omega, by omega⟩
    rw [List.length_erase_of_mem hm] at this
    have := List.length_pos_of_mem hm
    omega
theorem range_below : ∀ n : Fin 49, ((List.range 48).filter fun j => decide (j < n.1)).length = n.1 := by decide +kernel

/-- A set of sensors by its list. -/
def SetOf (l : List Nat) (s : Nat) : Prop := s < 281474976710656 ∧ ∀ j, s.testBit j = decide (j ∈ l)
theorem SetOf.congr {l m : List Nat} {s : Nat} (h : SetOf l s) (e : ∀ j, j ∈ l ↔ j ∈ m) : SetOf m s := ⟨h.1, fun j => by rw [h.2, decide_eq_decide]; exact e j⟩
theorem SetOf.eq {l m : List Nat} {s t : Nat} (h : SetOf l s) (k : SetOf m t) (e : ∀ j, j ∈ l ↔ j ∈ m) : s = t := bits_eq fun j => by rw [h.2, k.2, decide_eq_decide]; exact e j
theorem SetOf.nil : SetOf [] 0 := ⟨by omega, fun j => by simp⟩
theorem SetOf.with {l : List Nat} {s x : Nat} (h : SetOf l s) (hx : x < 48) : ∃ t : Nat, withF (s : Int) (x : Int) = (t : Int) ∧ SetOf (l ++ [x]) t := by
  obtain ⟨t, h1, h2, h3⟩ := with_set s x h.1 hx
  exact ⟨t, h1, h2, fun j => by rw [h3, h.2, Bool.eq_iff_iff]; simp⟩
theorem SetOf.has {l : List Nat} {s x : Nat} (h : SetOf l s) (hx : x < 48) : hasF (s : Int) (x : Int) = decide (x ∈ l) := by
  rw [has_nat s x (by omega) (by omega), h.2]
  rfl
theorem less_set {l : List Nat} {s x : Nat} (h : SetOf l s) (hx : x < 48) : ∃ t : Nat, lessF (s : Int) (x : Int) = (t : Int) ∧ t < 18446744073709551616 ∧ ∀ j, t.testBit j = (decide (j ∈ l) && !decide (j = x)) := by
  have hs := h.1
  have h1 := less_bits s x (by omega)
  unfold oneF at h1
  rw [if_pos (by omega), pow_i, Int.toNat_natCast] at h1
  have hp := pow48 x (by omega)
  rw [Int.toNat_natCast] at hp
  obtain ⟨c, hc, hc1, hc2⟩ := andNot_u64 s (2 ^ x) (by omega) (by omega)
  rw [hc] at h1
  refine ⟨c, h1.symm, hc1, fun j => ?_⟩
  rw [hc2, h.2, Nat.testBit_two_pow]
  congr 2
  rw [decide_eq_decide]
  exact eq_comm
/-- One step of the order. -/
theorem order_step {p : List Int} (hb : rightF p = true) {a b : List Nat} {x s t : Nat} (ho : walkF p 48 (rootK p) = a ++ x :: b) (hs : SetOf a s) (ht : SetOf (walkF p 48 x) t) :
    hasF (s : Int) (x : Int) = false ∧ withinF (lessF (t : Int) (x : Int)) (s : Int) = true ∧ ∃ u : Nat, withF (s : Int) (x : Int) = (u : Int) ∧ SetOf (a ++ [x]) u := by
  obtain ⟨hW, _, h48, hro⟩ := ways_of_right hb
  have hk := (first_root hro).1
  have hg := (hgt_of_ways hW hk).1
  have hx : x < p.length := (order_mem hb x).1 (by rw [ho]; simp)
  have hnd := walk_nodup hW 48 (rootK p) hk hg
  have hcl := walk_closed hW 48 (rootK p) hk (Nat.le_refl _) hg
  rw [ho] at hnd
  have hs1 := hs.1
  refine ⟨?_, ?_, hs.with (by omega)⟩
  · rw [hs.has (by omega), decide_eq_false_iff_not]
    intro h
    exact (List.nodup_append.1 hnd).2.2 x h x (by simp) rfl
  · obtain ⟨c, hc, hc1, hc2⟩ := less_set ht (show x < 48 by omega)
    rw [hc, within_iff c s hc1 (by omega)]
    intro j hj
    rw [hc2, Bool.and_eq_true, decide_eq_true_eq, Bool.not_eq_true', decide_eq_false_iff_not] at hj
    rw [hs.2, decide_eq_true_eq]
    rcases hcl a x b ho j hj.1 with h | h
    · exact absurd h hj.2
    · exact h
theorem order_end {p : List Int} (hb : rightF p = true) {s : Nat} (hs : SetOf (walkF p 48 (rootK p)) s) : (bitsL s).length = p.length ∧ (walkF p 48 (rootK p)).length = p.length := by
  obtain ⟨hW, _, h48, hro⟩ := ways_of_right hb
  have hk := (first_root hro).1
  have hg := (hgt_of_ways hW hk).1
  refine ⟨?_, nodup_card _ _ (walk_nodup hW 48 (rootK p) hk hg) (order_mem hb)⟩
  have := range_below ⟨p.length, by omega⟩
  unfold bitsL
  refine Eq.trans (congrArg List.length ?_) this
  congr 1
  funext j
  rw [hs.2, decide_eq_decide]
  exact order_mem hb j
/-- One step over the children. -/
theorem kid_step {p : List Int} (hW : Ways p) (h48 : p.length ≤ 48) {k : Nat} (hk : k < p.length) {a b : List Nat} {x s t : Nat} (ho : kidsL p (k : Int) = a ++ x :: b) (hs : SetOf (k :: a.flatMap (walkF p 48)) s) (ht : SetOf (walkF p 48 x) t) :
    apartF (t : Int) (s : Int) = true ∧ SetOf (k :: (a ++ [x]).flatMap (walkF p 48)) (unionF [s, t]) := by
  have hnd := walk_nodup hW 48 k hk (hgt_of_ways hW hk).1
  rw [walk_kids hW hk, ho] at hnd
  have hs1 := hs.1
  have ht1 := ht.1
  constructor
  · rw [apart_iff t s (by omega) (by omega)]
    rintro j ⟨h1, h2⟩
    rw [ht.2, decide_eq_true_eq] at h1
    rw [hs.2, decide_eq_true_eq] at h2
    rcases List.mem_cons.1 h2 with rfl | h2
    · refine (List.nodup_append.1 hnd).2.2 j ?_ j (by simp) rfl
      rw [List.flatMap_append, List.flatMap_cons]
      simp [h1]
    · have h3 := (List.nodup_append.1 hnd).1
      rw [List.flatMap_append, List.flatMap_cons] at h3
      exact (List.nodup_append.1 h3).2.2 j h2 j (by simp [h1]) rfl
  · refine ⟨?_, fun j => ?_⟩
    · show (0 ||| s) ||| t < _
      exact Nat.or_lt_two_pow (n := 48) (Nat.or_lt_two_pow (by omega) hs1) ht1
    · show ((0 ||| s) ||| t).testBit j = _
      rw [Nat.testBit_or, Nat.testBit_or, hs.2, ht.2, Bool.eq_iff_iff]
      simp [List.flatMap_append, or_assoc]
theorem kids_end {p : List Int} (hW : Ways p) {k : Nat} (hk : k < p.length) {s t : Nat} (hs : SetOf (k :: (kidsL p (k : Int)).flatMap (walkF p 48)) s) (ht : SetOf (walkF p 48 k) t) : s = t := by
  rw [walk_kids hW hk] at ht
  exact hs.eq ht fun j => by simp [or_comm]
end Go.Proofs.YtcpakoobgcdekaaDoor

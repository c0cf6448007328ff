/- Part 4 of the proof: texts joined by this repo's tools/merge2.py (RollL StoM AgdM PrbM). By the prover of this repo. -/
import Derived.Test.YteebghoijaaakaaGreatM3
set_option linter.unusedVariables false
set_option linter.unusedSimpArgs false
/- Plain facts on lists of nodes, folded: the folded list hangs on no order, weighs what was weighed, stays as it is, and is a roll. No program in sight. By the prover of this repo. -/
namespace Go.Proofs.YteebghoijaaakaaGreat
namespace RollM
open TwigM Go.RowKit

/-- What all weigh, and what one number weighs. -/
def sumL : List Nd → Int
  | [] => 0
  | p :: l => p.2 + sumL l
def wt (id : Int) : List Nd → Int
  | [] => 0
  | p :: l => (if p.1 = id then p.2 else 0) + wt id l
def Cnt (l : List Nd) : Prop := ∀ p ∈ l, 0 ≤ p.2
def Ids (l : List Nd) : Prop := ∀ p ∈ l, 1 ≤ p.1

theorem sumL_append : ∀ a b : List Nd, sumL (a ++ b) = sumL a + sumL b
  | [], b => by simp [sumL]
  | p :: a, b => by rw [List.cons_append, sumL, sumL, sumL_append a b]; omega
theorem wt_append (id : Int) : ∀ a b : List Nd, wt id (a ++ b) = wt id a + wt id b
  | [], b => by simp [wt]
  | p :: a, b => by rw [List.cons_append, wt, wt, wt_append id a b]; omega
theorem sumL_nonneg : ∀ l : List Nd, Cnt l → 0 ≤ sumL l
  | [], _ => by simp [sumL]
  | p :: l, h => by
    have h1 := h p (by simp)
    have h2 := sumL_nonneg l fun x hx => h x (by simp [hx])
    rw [sumL]; omega
theorem cnt_append {a b : List Nd} : Cnt (a ++ b) ↔ Cnt a ∧ Cnt b := by
  unfold Cnt
  simp only [List.mem_append]
  exact ⟨fun h => ⟨fun p hp => h p (.inl hp), fun p hp => h p (.inr hp)⟩, fun h p hp => hp.elim (h.1 p) (h.2 p)⟩
theorem ids_append {a b : List Nd} : Ids (a ++ b) ↔ Ids a ∧ Ids b := by
  unfold Ids
  simp only [List.mem_append]
  exact ⟨fun h => ⟨fun p hp => h p (.inl hp), fun p hp => h p (.inr hp)⟩, fun h p hp => hp.elim (h.1 p) (h.2 p)⟩

theorem totGo_ok : ∀ (l : List Nd) (n : Int), 0 ≤ n → Cnt l → n + sumL l ≤ 72057594037927935 → totGo n l = (n + sumL l, true)
  | [], n, _, _, _ => by simp [totGo, sumL]
  | p :: l, n, h0, hc, hs => by
    have h1 := hc p (by simp)
    have hc2 : Cnt l := fun x hx => hc x (by simp [hx])
    have h2 := sumL_nonneg l hc2
    rw [sumL] at hs
    rw [totGo, if_neg (by omega), totGo_ok l (n + p.2) (by omega) hc2 (by omega), sumL]
    congr 1; omega
theorem totGo_back : ∀ (l : List Nd) (n : Int), (totGo n l).2 = true → n ≤ 72057594037927935 → Cnt l ∧ n + sumL l ≤ 72057594037927935
  | [], n, _, hn => ⟨(fun p hp => by cases hp), by simpa [sumL] using hn⟩
  | p :: l, n, h, hn => by
    rw [totGo] at h
    by_cases hb : p.2 < 0 ∨ 72057594037927935 - n < p.2
    · rw [if_pos hb] at h; cases h
    · rw [if_neg hb] at h
      have := totGo_back l (n + p.2) h (by omega)
      refine ⟨fun x hx => ?_, by rw [sumL]; omega⟩
      rcases List.mem_cons.1 hx with rfl | hx
      · omega
      · exact this.1 x hx
theorem totF_iff (l : List Nd) : (totF l).2 = true ↔ Cnt l ∧ sumL l ≤ 72057594037927935 := by
  constructor
  · intro h
    have := totGo_back l 0 h (by omega)
    exact ⟨this.1, by omega⟩
  · intro h
    show (totGo 0 l).2 = true
    rw [totGo_ok l 0 (by omega) h.1 (by omega)]
theorem totF_ok (l : List Nd) (h : Cnt l) (hs : sumL l ≤ 72057594037927935) : totF l = (sumL l, true) := by
  show totGo 0 l = _
  rw [totGo_ok l 0 (by omega) h (by omega), Int.zero_add]

/-- Rising numbers, each of some weight. -/
structure Canon (l : List Nd) : Prop where
  rise : l.Pairwise fun x y => x.1 < y.1
  cnt : ∀ p ∈ l, 0 < p.2
theorem Canon.nil : Canon [] := ⟨List.Pairwise.nil, fun p hp => by cases hp⟩
theorem Canon.cntL {l : List Nd} (h : Canon l) : Cnt l := fun p hp => Int.le_of_lt (h.cnt p hp)
theorem wt_zero (id : Int) : ∀ l : List Nd, (∀ p ∈ l, p.1 ≠ id) → wt id l = 0
  | [], _ => rfl
  | p :: l, h => by rw [wt, if_neg (h p (by simp)), wt_zero id l fun x hx => h x (by simp [hx])]; rfl
theorem wt_nonneg (id : Int) : ∀ l : List Nd, Cnt l → 0 ≤ wt id l
  | [], _ => by simp [wt]
  | p :: l, h => by
    have h1 := h p (by simp)
    have h2 := wt_nonneg id l fun x hx => h x (by simp [hx])
    rw [wt]; split <;> omega
theorem canon_ext : ∀ a b : List Nd, Canon a → Canon b → (∀ id, wt id a = wt id b) → a = b
  | [], [], _, _, _ => rfl
  | [], q :: b, _, hb, h => by
    have h1 := h q.1
    have h2 := hb.cnt q (by simp)
    have h3 := wt_nonneg q.1 b fun x hx => Int.le_of_lt (hb.cnt x (by simp [hx]))
    rw [wt, wt, if_pos rfl] at h1; omega
  | p :: a, [], ha, _, h => by
    have h1 := h p.1
    have h2 := ha.cnt p (by simp)
    have h3 := wt_nonneg p.1 a fun x hx => Int.le_of_lt (ha.cnt x (by simp [hx]))
    rw [wt, wt, if_pos rfl] at h1; omega
  | p :: a, q :: b, ha, hb, h => by
    have ha' := List.pairwise_cons.1 ha.rise
    have hb' := List.pairwise_cons.1 hb.rise
    have hp := ha.cnt p (by simp)
    have hq := hb.cnt q (by simp)
    have hap := wt_zero p.1 a fun x hx => by have := ha'.1 x hx; omega
    have hbq := wt_zero q.1 b fun x hx => by have := hb'.1 x hx; omega
    have e : p.1 = q.1 := by
      rcases Int.lt_trichotomy p.1 q.1 with hlt | he | hlt
      · have h1 := h p.1
        rw [wt, wt, if_pos rfl, if_neg (by omega), hap, wt_zero p.1 b fun x hx => by have := hb'.1 x hx; omega] at h1
        omega
      · exact he
      · have h1 := h q.1
        rw [wt, wt, if_pos rfl, if_neg (by omega), hbq, wt_zero q.1 a fun x hx => by have := ha'.1 x hx; omega] at h1
        omega
    have e2 : p.2 = q.2 := by
      have h1 := h p.1
      rw [← e] at hbq
      rw [wt, wt, if_pos rfl, if_pos e.symm, hap, hbq] at h1
      omega
    have hpq : p = q := Prod.ext e e2
    subst hpq
    rw [canon_ext a b ⟨ha'.2, fun x hx => ha.cnt x (by simp [hx])⟩ ⟨hb'.2, fun x hx => hb.cnt x (by simp [hx])⟩ fun id => by
      have h1 := h id
      rw [wt, wt] at h1
      omega]

theorem lastId_snocP : ∀ (l : List Nd) (q : Nd), lastId (l ++ [q]) = some q.1
  | [], q => rfl
  | [a], q => rfl
  | a :: b :: l, q => by have := lastId_snocP (b :: l) q; simpa [lastId] using this
theorem bump_snocP (n : Int) : ∀ (l : List Nd) (q : Nd), bump n (l ++ [q]) = l ++ [(q.1, wrap64 (q.2 + n))]
  | [], q => rfl
  | [a], q => rfl
  | a :: b :: l, q => by have := bump_snocP n (b :: l) q; simpa [bump] using this
theorem wrap_in (x : Int) (h : -9223372036854775808 ≤ x ∧ x ≤ 9223372036854775807) : wrap64 x = x := by unfold wrap64; omega

theorem sumL_le (l : List Nd) (h : Cnt l) (p : Nd) (hp : p ∈ l) : p.2 ≤ sumL l := by
  induction l with
  | nil => cases hp
  | cons q l ih =>
    have h1 := h q (by simp)
    have h2 : Cnt l := fun x hx => h x (by simp [hx])
    have h3 := sumL_nonneg l h2
    rw [sumL]
    rcases List.mem_cons.1 hp with rfl | hp
    · omega
    · have := ih h2 hp; omega

theorem foldGo_ok : ∀ (r out : List Nd), Canon out → (r.Pairwise fun x y => x.1 ≤ y.1) → (∀ x ∈ out, ∀ y ∈ r, x.1 ≤ y.1) → Cnt r → Ids r → sumL out + sumL r ≤ 72057594037927935 →
    ∃ S, foldGo out r = (S, true) ∧ Canon S ∧ (∀ id, wt id S = wt id out + wt id r) ∧ sumL S = sumL out + sumL r ∧ ∀ p ∈ S, (∃ q ∈ out, q.1 = p.1) ∨ ∃ q ∈ r, q.1 = p.1
  | [], out, hC, _, _, _, _, _ => ⟨out, rfl, hC, fun id => by simp [wt], by simp [sumL], fun p hp => .inl ⟨p, hp, rfl⟩⟩
  | p :: r, out, hC, hs, hor, hc, hi, hm => by
    have hs' := List.pairwise_cons.1 hs
    have hp0 := hc p (by simp)
    have hp1 := hi p (by simp)
    have hcr : Cnt r := fun x hx => hc x (by simp [hx])
    have hir : Ids r := fun x hx => hi x (by simp [hx])
    have hr0 := sumL_nonneg r hcr
    have ho0 := sumL_nonneg out hC.cntL
    rw [sumL] at hm
    rw [foldGo, if_neg (by omega)]
    by_cases h0 : p.2 = 0
    · rw [if_pos h0]
      obtain ⟨S, e, h1, h2, h3, h4⟩ := foldGo_ok r out hC hs'.2 (fun x hx y hy => hor x hx y (by simp [hy])) hcr hir (by omega)
      refine ⟨S, e, h1, fun id => ?_, ?_, fun q hq => ?_⟩
      · rw [h2, wt]; split <;> omega
      · rw [h3, sumL]; omega
      · rcases h4 q hq with h | ⟨x, hx, h⟩
        · exact .inl h
        · exact .inr ⟨x, by simp [hx], h⟩
    · rw [if_neg h0]
      rcases List.eq_nil_or_concat out with rfl | ⟨init, q, rfl⟩
      · rw [if_neg (by simp [lastId])]
        obtain ⟨S, e, h1, h2, h3, h4⟩ := foldGo_ok r [p] ⟨by simp, by simp; omega⟩ hs'.2 (by simpa using hs'.1) hcr hir (by simp [sumL] at *; omega)
        refine ⟨S, e, h1, fun id => ?_, ?_, fun x hx => ?_⟩
        · rw [h2]; simp [wt]
        · rw [h3]; simp [sumL]
        · rcases h4 x hx with ⟨y, hy, h⟩ | ⟨y, hy, h⟩
          · simp at hy; subst hy; exact .inr ⟨y, by simp, h⟩
          · exact .inr ⟨y, by simp [hy], h⟩
      · rw [List.concat_eq_append] at *
        rw [lastId_snocP]
        have hC' := List.pairwise_append.1 hC.rise
        by_cases hq : q.1 = p.1
        · rw [if_pos (by rw [hq]), bump_snocP]
          have hq2 := hC.cnt q (by simp)
          have hql := sumL_le _ hC.cntL q (by simp)
          rw [wrap_in _ (by omega)]
          have hs1 : sumL (init ++ [(q.1, q.2 + p.2)]) = sumL (init ++ [q]) + p.2 := by rw [sumL_append, sumL_append]; simp [sumL]; omega
          obtain ⟨S, e, h1, h2, h3, h4⟩ := foldGo_ok r (init ++ [(q.1, q.2 + p.2)]) ⟨List.pairwise_append.2 ⟨hC'.1, by simp, by simpa using hC'.2.2⟩, fun x hx => by
              rcases List.mem_append.1 hx with hx | hx
              · exact hC.cnt x (by simp [hx])
              · simp at hx; subst hx; simp; omega⟩ hs'.2 (fun x hx y hy => by
              rcases List.mem_append.1 hx with hx | hx
              · exact hor x (by simp [hx]) y (by simp [hy])
              · simp at hx; subst hx; exact hor q (by simp) y (by simp [hy])) hcr hir (by omega)
          refine ⟨S, e, h1, fun id => ?_, ?_, fun x hx => ?_⟩
          · rw [h2, wt_append, wt_append]
            simp only [wt, hq]
            split <;> omega
          · rw [h3, hs1, sumL]; omega
          · rcases h4 x hx with ⟨y, hy, h⟩ | ⟨y, hy, h⟩
            · rcases List.mem_append.1 hy with hy | hy
              · exact .inl ⟨y, by simp [hy], h⟩
              · simp at hy; subst hy; exact .inl ⟨q, by simp, h⟩
            · exact .inr ⟨y, by simp [hy], h⟩
        · rw [if_neg (by simpa using hq)]
          have hqp := hor q (by simp) p (by simp)
          have hall : ∀ x ∈ init ++ [q], x.1 < p.1 := fun x hx => by
            rcases List.mem_append.1 hx with hx | hx
            · have := hC'.2.2 x hx q (by simp); omega
            · simp at hx; subst hx; omega
          have hs1 : sumL (init ++ [q] ++ [p]) = sumL (init ++ [q]) + p.2 := by rw [sumL_append]; simp [sumL]
          obtain ⟨S, e, h1, h2, h3, h4⟩ := foldGo_ok r (init ++ [q] ++ [p]) ⟨List.pairwise_append.2 ⟨hC.rise, by simp, fun x hx y hy => by simp at hy; subst hy; exact hall x hx⟩, fun x hx => by
              rcases List.mem_append.1 hx with hx | hx
              · exact hC.cnt x hx
              · simp at hx; subst hx; omega⟩ hs'.2 (fun x hx y hy => by
              rcases List.mem_append.1 hx with hx | hx
              · exact hor x hx y (by simp [hy])
              · simp at hx; subst hx; exact hs'.1 y hy) hcr hir (by omega)
          refine ⟨S, e, h1, fun id => ?_, ?_, fun x hx => ?_⟩
          · rw [h2, wt_append]; simp only [wt]; omega
          · rw [h3, hs1, sumL]; omega
          · rcases h4 x hx with ⟨y, hy, h⟩ | ⟨y, hy, h⟩
            · rcases List.mem_append.1 hy with hy | hy
              · exact .inl ⟨y, hy, h⟩
              · simp at hy; subst hy; exact .inr ⟨y, by simp, h⟩
            · exact .inr ⟨y, by simp [hy], h⟩

theorem foldGo_bad : ∀ (r out : List Nd), ¬ Ids r → foldGo out r = ([], false)
  | [], out, h => absurd (fun p hp => by cases hp) h
  | p :: r, out, h => by
    rw [foldGo]
    by_cases h1 : p.1 < 1
    · rw [if_pos h1]
    · rw [if_neg h1]
      have hr : ¬ Ids r := fun k => h fun x hx => by
        rcases List.mem_cons.1 hx with rfl | hx
        · omega
        · exact k x hx
      rw [foldGo_bad r out hr, foldGo_bad r _ hr, foldGo_bad r _ hr]
      simp

theorem ins_wt (id : Int) (lt : Nd → Nd → Bool) (x : Nd) : ∀ l : List Nd, wt id (ins lt x l) = wt id (x :: l)
  | [] => rfl
  | y :: l => by
    rw [ins]
    split
    · rfl
    · rw [wt, ins_wt id lt x l]; simp only [wt]; omega
theorem ins_sum (lt : Nd → Nd → Bool) (x : Nd) : ∀ l : List Nd, sumL (ins lt x l) = sumL (x :: l)
  | [] => rfl
  | y :: l => by
    rw [ins]
    split
    · rfl
    · rw [sumL, ins_sum lt x l]; simp only [sumL]; omega
theorem isort_both (lt : Nd → Nd → Bool) (l : List Nd) : (∀ id, wt id (isort lt l) = wt id l) ∧ sumL (isort lt l) = sumL l := by
  have hrec : ∀ k : List Nd, (∀ id, wt id (isort lt k.reverse) = wt id k.reverse) ∧ sumL (isort lt k.reverse) = sumL k.reverse := by
    intro k
    induction k with
    | nil => exact ⟨fun _ => rfl, rfl⟩
    | cons x k ih =>
      rw [List.reverse_cons, isort_snoc]
      refine ⟨fun id => ?_, ?_⟩
      · rw [ins_wt, wt, ih.1 id, wt_append]; simp only [wt]; omega
      · rw [ins_sum, sumL, ih.2, sumL_append]; simp only [sumL]; omega
  have := hrec l.reverse
  rwa [List.reverse_reverse] at this

/-- What is weighed and folded. -/
def Good (l : List Nd) : Prop := Cnt l ∧ sumL l ≤ 72057594037927935 ∧ Ids l
theorem foldF_good (l : List Nd) (h : Good l) : ∃ S, foldF l = (S, true) ∧ Canon S ∧ (∀ id, wt id S = wt id l) ∧ sumL S = sumL l ∧ Ids S ∧ ∀ p ∈ S, ∃ q ∈ l, q.1 = p.1 := by
  obtain ⟨h1, h2, h3⟩ := h
  have hb := isort_both ltS l
  have hmem : ∀ p, p ∈ isort ltS l ↔ p ∈ l := fun p => isort_mem l p
  have hsr : (isort ltS l).Pairwise fun x y => x.1 ≤ y.1 := (isort_srt ordS l).imp fun {x y} h => by simp [ltS] at h; exact h
  have hI : Ids (isort ltS l) := fun p hp => h3 p ((hmem p).1 hp)
  obtain ⟨S, e, k1, k2, k3, k4⟩ := foldGo_ok (isort ltS l) [] Canon.nil hsr (fun x hx => by cases hx) (fun p hp => h1 p ((hmem p).1 hp)) hI (by rw [hb.2]; simpa [sumL] using h2)
  have hin : ∀ p ∈ S, ∃ q ∈ l, q.1 = p.1 := fun p hp => by
    rcases k4 p hp with ⟨q, hq, _⟩ | ⟨q, hq, h⟩
    · cases hq
    · exact ⟨q, (hmem q).1 hq, h⟩
  refine ⟨S, ?_, k1, fun id => ?_, ?_, fun p hp => ?_, hin⟩
  · unfold foldF; rw [if_pos ((totF_iff l).2 ⟨h1, h2⟩), e]
  · rw [k2, hb.1]; simp [wt]
  · rw [k3, hb.2]; simp [sumL]
  · obtain ⟨q, hq, h⟩ := hin p hp
    rw [← h]; exact h3 q hq
/-- Bounds of a folded list. -/
def Bd (l S : List Nd) : Prop := ∀ p ∈ S, (∃ q ∈ l, q.1 = p.1) ∧ 0 < p.2 ∧ p.2 ≤ 72057594037927935
theorem bd_of {l S : List Nd} (hC : Canon S) (hs : sumL S ≤ 72057594037927935) (hin : ∀ p ∈ S, ∃ q ∈ l, q.1 = p.1) : Bd l S := fun p hp =>
  ⟨hin p hp, hC.cnt p hp, by have := sumL_le S hC.cntL p hp; omega⟩
theorem foldF_bad (l : List Nd) (h : ¬ Good l) : foldF l = ([], false) := by
  unfold foldF
  by_cases h1 : (totF l).2 = true
  · rw [if_pos h1]
    have h2 := (totF_iff l).1 h1
    exact foldGo_bad _ _ fun k => h ⟨h2.1, h2.2, fun p hp => k p ((isort_mem l p).2 hp)⟩
  · rw [if_neg h1]

theorem good_append {a b : List Nd} : Good (a ++ b) → Good a ∧ Good b := by
  rintro ⟨h1, h2, h3⟩
  have hc := cnt_append.1 h1
  have hi := ids_append.1 h3
  rw [sumL_append] at h2
  have ha := sumL_nonneg a hc.1
  have hb := sumL_nonneg b hc.2
  exact ⟨⟨hc.1, by omega, hi.1⟩, ⟨hc.2, by omega, hi.2⟩⟩
theorem good_comm {a b : List Nd} (h : Good (a ++ b)) : Good (b ++ a) := by
  obtain ⟨h1, h2, h3⟩ := h
  exact ⟨cnt_append.2 (cnt_append.1 h1).symm, by rw [sumL_append] at *; omega, ids_append.2 (ids_append.1 h3).symm⟩

/-- The order does not matter. -/
theorem join_comm (a b : List Nd) : joinF b a = joinF a b := by
  unfold joinF
  by_cases h : Good (a ++ b)
  · obtain ⟨S, e, k1, k2, _⟩ := foldF_good _ h
    obtain ⟨T, e2, j1, j2, _⟩ := foldF_good _ (good_comm h)
    rw [e, e2, canon_ext T S j1 k1 fun id => by rw [j2, k2, wt_append, wt_append]; omega]
  · rw [foldF_bad _ h, foldF_bad _ fun k => h (good_comm k)]
/-- All that is asked of what is joined. -/
structure Joined (a b s p q : List Nd) : Prop where
  fs : foldF s = (s, true)
  fa : foldF a = (p, true)
  fb : foldF b = (q, true)
  pq : joinF p q = (s, true)
  tp : ∃ m n, totF p = (m, true) ∧ totF q = (n, true) ∧ totF s = (m + n, true) ∧ 0 ≤ m ∧ 0 ≤ n ∧ m + n ≤ 72057594037927935
  bs : Bd (a ++ b) s
  bp : Bd a p
  bq : Bd b q
  canon : Canon s
  ids : Ids s
theorem join_all (a b : List Nd) : joinF a b = ([], false) ∨ ∃ s p q, joinF a b = (s, true) ∧ Joined a b s p q := by
  by_cases h : Good (a ++ b)
  · obtain ⟨ga, gb⟩ := good_append h
    obtain ⟨s, e, k1, k2, k3, k4, k5⟩ := foldF_good _ h
    obtain ⟨p, ep, p1, p2, p3, p4, p5⟩ := foldF_good _ ga
    obtain ⟨q, eq, q1, q2, q3, q4, q5⟩ := foldF_good _ gb
    have gs : Good s := ⟨k1.cntL, by rw [k3]; exact h.2.1, k4⟩
    obtain ⟨s2, e2, j1, j2, _⟩ := foldF_good _ gs
    have gpq : Good (p ++ q) := ⟨cnt_append.2 ⟨p1.cntL, q1.cntL⟩, by rw [sumL_append, p3, q3, ← sumL_append]; exact h.2.1, ids_append.2 ⟨p4, q4⟩⟩
    obtain ⟨s3, e3, i1, i2, _⟩ := foldF_good _ gpq
    refine .inr ⟨s, p, q, e, ?_, ep, eq, ?_, ?_, bd_of k1 (by rw [k3]; exact h.2.1) k5, bd_of p1 (by rw [p3]; exact ga.2.1) p5, bd_of q1 (by rw [q3]; exact gb.2.1) q5, k1, k4⟩
    · rw [e2, canon_ext s2 s j1 k1 j2]
    · show foldF (p ++ q) = _
      rw [e3, canon_ext s3 s i1 k1 fun id => by rw [i2, k2, wt_append, wt_append, p2, q2]]
    · have h2 := h.2.1
      rw [sumL_append] at h2
      refine ⟨_, _, totF_ok p p1.cntL (by rw [p3]; exact ga.2.1), totF_ok q q1.cntL (by rw [q3]; exact gb.2.1), ?_, sumL_nonneg p p1.cntL, sumL_nonneg q q1.cntL, by rw [p3, q3]; exact h2⟩
      rw [totF_ok s k1.cntL (by rw [k3]; exact h.2.1), k3, p3, q3, sumL_append]
  · exact .inl (foldF_bad _ h)

/-- Are all of some numbers nodes? -/
def allR (L : Int) (b : Bool) : List Nd → Bool
  | [] => b
  | p :: l => allR L (b && rightB L p.1) l
theorem allR_false (L : Int) : ∀ l : List Nd, allR L false l = false
  | [] => rfl
  | p :: l => by rw [allR, Bool.false_and]; exact allR_false L l
theorem allR_right (L : Int) : ∀ (l : List Nd) (last : Int) (b : Bool), (l.Pairwise fun x y => x.1 < y.1) → (∀ p ∈ l, last < p.1) → (∀ p ∈ l, 0 < p.2) → allR L b l = (rightGo L last l && b)
  | [], last, b, _, _, _ => by simp [allR, rightGo]
  | p :: l, last, b, hs, hl, hc => by
    have hs' := List.pairwise_cons.1 hs
    have h1 := hl p (by simp)
    have h2 := hc p (by simp)
    rw [allR, rightGo]
    cases hr : rightB L p.1
    · rw [if_pos (by simp), Bool.and_false, allR_false]; rfl
    · rw [if_neg (by simp; omega), Bool.and_true]
      exact allR_right L l p.1 b hs'.2 hs'.1 fun x hx => hc x (by simp [hx])
theorem roll_all (L : Int) (s : List Nd) (m : Int) (h : Canon s) (hi : Ids s) (ht : totF s = (m, true)) : allR L (uniB L) s = rollB L s := by
  unfold rollB
  rw [ht, Bool.true_and]
  exact allR_right L s 0 _ h.rise (fun p hp => by have := hi p hp; omega) h.cnt
end RollM
end Go.Proofs.YteebghoijaaakaaGreat
/- Plain facts on what a store has: nodes with weights, one added to, one taken away, a pair folded; how far ranks may be apart; how many nodes there are once nothing is ready. No program in sight. By the prover of this repo. -/
namespace Go.Proofs.YteebghoijaaakaaGreat
namespace StoM
open TwigM RollM Go.RowKit

/-- What all weigh, each so many times. -/
def sumM (g : Int → Int) : List Nd → Int
  | [] => 0
  | p :: l => p.2 * g p.1 + sumM g l
/-- All but a node. -/
def del (x : Int) (l : List Nd) : List Nd := l.filter fun p => decide (p.1 ≠ x)
abbrev put (x n : Int) (l : List Nd) : List Nd := BagM.put x n l
/-- All are nodes of a universe. -/
def InU (L : Int) (l : List Nd) : Prop := ∀ p ∈ l, 1 ≤ p.1 ∧ p.1 < 2 * pw L

theorem del_nil (x : Int) : del x [] = [] := rfl
theorem del_same {x : Int} {p : Nd} (h : p.1 = x) (l : List Nd) : del x (p :: l) = del x l := by unfold del; rw [List.filter_cons_of_neg (by simpa using h)]
theorem del_other {x : Int} {p : Nd} (h : p.1 ≠ x) (l : List Nd) : del x (p :: l) = p :: del x l := by unfold del; rw [List.filter_cons_of_pos (by simpa using h)]
theorem del_mem {x : Int} {l : List Nd} {p : Nd} : p ∈ del x l ↔ p ∈ l ∧ p.1 ≠ x := by unfold del; rw [List.mem_filter, decide_eq_true_eq]
theorem del_len (x : Int) (l : List Nd) : (del x l).length ≤ l.length := List.length_filter_le _ _
theorem sumM_split (g : Int → Int) (x : Int) : ∀ l : List Nd, sumM g l = wt x l * g x + sumM g (del x l)
  | [] => by simp [sumM, wt, del_nil]
  | p :: l => by
    have ih := sumM_split g x l
    by_cases h : p.1 = x
    · rw [del_same h, sumM, wt, if_pos h, ih, h, Int.add_mul]; omega
    · rw [del_other h, sumM, sumM, wt, if_neg h, ih, Int.zero_add]; omega
theorem wt_del (id x : Int) : ∀ l : List Nd, wt id (del x l) = if id = x then 0 else wt id l
  | [] => by rw [del_nil]; split <;> rfl
  | p :: l => by
    have ih := wt_del id x l
    by_cases h : p.1 = x
    · rw [del_same h, ih]
      by_cases h2 : id = x
      · rw [if_pos h2, if_pos h2]
      · rw [if_neg h2, if_neg h2, wt, if_neg (by omega), Int.zero_add]
    · rw [del_other h, wt, ih, wt]
      by_cases h2 : id = x
      · rw [if_pos h2, if_pos h2, if_neg (by omega)]; rfl
      · rw [if_neg h2, if_neg h2]
theorem sumM_ext (g : Int → Int) : ∀ (n : Nat) (a b : List Nd), a.length + b.length ≤ n → (∀ id, wt id a = wt id b) → sumM g a = sumM g b
  | _, [], [], _, _ => rfl
  | 0, p :: a, b, h, _ => by simp at h
  | 0, [], q :: b, h, _ => by simp at h
  | n + 1, p :: a, b, h, hw => by
    rw [sumM_split g p.1 (p :: a), sumM_split g p.1 b, hw p.1, del_same rfl]
    rw [sumM_ext g n (del p.1 a) (del p.1 b) (by have h1 := del_len p.1 a; have h2 := del_len p.1 b; simp at h; omega) fun id => by
      have h1 := wt_del id p.1 (p :: a)
      rw [del_same rfl] at h1
      rw [h1, wt_del, hw id]]
  | n + 1, [], q :: b, h, hw => by
    rw [sumM_split g q.1 (q :: b), ← hw q.1, del_same rfl]
    rw [← sumM_ext g n [] (del q.1 b) (by have h2 := del_len q.1 b; simp at h ⊢; omega) fun id => by
      have h1 := wt_del id q.1 (q :: b)
      rw [del_same rfl] at h1
      rw [h1, ← hw id]
      split <;> rfl]
    simp [wt, sumM]
theorem sumL_M : ∀ l : List Nd, sumL l = sumM (fun _ => 1) l
  | [] => rfl
  | p :: l => by rw [sumL, sumM, sumL_M l]; omega
theorem wt_M (x : Int) : ∀ l : List Nd, wt x l = sumM (fun id => if id = x then 1 else 0) l
  | [] => rfl
  | p :: l => by rw [wt, sumM, wt_M x l]; split <;> omega
theorem sumM_put (g : Int → Int) (x n : Int) : ∀ l : List Nd, sumM g (put x n l) = sumM g l + n * g x
  | [] => by simp [put, BagM.put, sumM]
  | p :: l => by
    have ih := sumM_put g x n l
    simp only [put] at ih
    simp only [put, BagM.put]
    split
    · rename_i h
      simp only [sumM]
      rw [h, Int.add_mul]; omega
    · split
      · simp only [sumM]; omega
      · simp only [sumM]; rw [ih]; omega
theorem wt_put (id x n : Int) (l : List Nd) : wt id (put x n l) = wt id l + if x = id then n else 0 := by
  rw [wt_M, sumM_put, ← wt_M]
  split <;> omega
theorem sumM_sub (f g : Int → Int) : ∀ l : List Nd, sumM f l - sumM g l = sumM (fun id => f id - g id) l
  | [] => rfl
  | p :: l => by
    have ih := sumM_sub f g l
    simp only [sumM]
    rw [← ih, Int.mul_sub]; omega
theorem sumM_add (f g : Int → Int) : ∀ l : List Nd, sumM f l + sumM g l = sumM (fun id => f id + g id) l
  | [] => rfl
  | p :: l => by
    have ih := sumM_add f g l
    simp only [sumM]
    rw [← ih, Int.mul_add]; omega
theorem sumM_le {f g : Int → Int} : ∀ {l : List Nd}, Cnt l → (∀ p ∈ l, f p.1 ≤ g p.1) → sumM f l ≤ sumM g l
  | [], _, _ => Int.le_refl _
  | p :: l, h, hfg => by
    have ih := sumM_le (l := l) (fun q hq => h q (by simp [hq])) (fun q hq => hfg q (by simp [hq]))
    have := Int.mul_le_mul_of_nonneg_left (hfg p (by simp)) (h p (by simp))
    simp only [sumM]; omega
theorem sumM_congr {f g : Int → Int} : ∀ {l : List Nd}, (∀ p ∈ l, f p.1 = g p.1) → sumM f l = sumM g l
  | [], _ => rfl
  | p :: l, h => by simp only [sumM]; rw [h p (by simp), sumM_congr fun q hq => h q (by simp [hq])]
theorem sumM_map (g : Int → Int) (m : Int → Int) : ∀ l : List Nd, sumM g (l.map fun p => (m p.1, p.2)) = sumM (fun id => g (m id)) l
  | [] => rfl
  | p :: l => by simp only [List.map_cons, sumM]; rw [sumM_map g m l]
theorem sumM_zero : ∀ l : List Nd, sumM (fun _ => 0) l = 0
  | [] => rfl
  | p :: l => by simp only [sumM]; rw [sumM_zero l]; omega
theorem sumM_nonneg {g : Int → Int} {l : List Nd} (h : Cnt l) (hg : ∀ p ∈ l, 0 ≤ g p.1) : 0 ≤ sumM g l := by
  rw [← sumM_zero l]
  exact sumM_le h hg

theorem canon_put {l : List Nd} (h : Canon l) {x n : Int} (hn : 0 < n) : Canon (put x n l) :=
  ⟨BagM.put_rise x n l h.rise, fun p hp => BagM.put_pos x n (by omega) l (fun q hq => h.cnt q hq) p hp⟩
theorem canon_del {l : List Nd} (h : Canon l) (x : Int) : Canon (del x l) :=
  ⟨h.rise.filter _, fun p hp => h.cnt p (del_mem.1 hp).1⟩
theorem inU_put {L : Int} {l : List Nd} (h : InU L l) {x n : Int} (h1 : 1 ≤ x) (h2 : x < 2 * pw L) : InU L (put x n l) := fun p hp => by
  rcases BagM.put_mem x n l p hp with e | hp
  · rw [e]; exact ⟨h1, h2⟩
  · exact h p hp
theorem inU_del {L : Int} {l : List Nd} (h : InU L l) (x : Int) : InU L (del x l) := fun p hp => h p (del_mem.1 hp).1
theorem wt_mem {l : List Nd} (h : Canon l) {p : Nd} (hp : p ∈ l) : wt p.1 l = p.2 := by
  induction l with
  | nil => cases hp
  | cons q l ih =>
    obtain ⟨h1, h2⟩ := List.pairwise_cons.1 h.rise
    rw [wt]
    rcases List.mem_cons.1 hp with rfl | hp
    · rw [if_pos rfl, wt_zero p.1 l fun x hx => by have := h1 x hx; omega]; omega
    · rw [if_neg (by have := h1 p hp; omega), ih ⟨h2, fun x hx => h.cnt x (by simp [hx])⟩ hp]; omega
theorem mem_wt {l : List Nd} {x : Int} (h : wt x l ≠ 0) : ∃ p ∈ l, p.1 = x := by
  refine Classical.byContradiction fun k => h (wt_zero x l fun p hp e => k ⟨p, hp, e⟩)
theorem len_del {l : List Nd} (h : Canon l) (x : Int) : (del x l).length = l.length - if wt x l = 0 then 0 else 1 := by
  induction l with
  | nil => simp [del_nil]
  | cons p l ih =>
    obtain ⟨h1, h2⟩ := List.pairwise_cons.1 h.rise
    have hc := h.cnt p (by simp)
    by_cases hx : p.1 = x
    · have hz := wt_zero x l fun y hy => by have := h1 y hy; omega
      have hd : del x l = l := by
        unfold del
        rw [List.filter_eq_self]
        intro y hy
        have := h1 y hy
        simp; omega
      rw [del_same hx, wt, if_pos hx, hz, if_neg (by omega), hd]; simp
    · have ih := ih ⟨h2, fun y hy => h.cnt y (by simp [hy])⟩
      rw [del_other hx, wt, if_neg hx, Int.zero_add, List.length_cons, List.length_cons, ih]
      split
      · omega
      · rename_i hne
        obtain ⟨q, hq, _⟩ := mem_wt hne
        have := List.length_pos_of_mem hq
        omega
theorem len_put {l : List Nd} (h : Canon l) (x n : Int) : (put x n l).length = l.length + if wt x l = 0 then 1 else 0 := by
  induction l with
  | nil => simp [put, BagM.put, wt]
  | cons p l ih =>
    obtain ⟨h1, h2⟩ := List.pairwise_cons.1 h.rise
    have hc := h.cnt p (by simp)
    have ih := ih ⟨h2, fun y hy => h.cnt y (by simp [hy])⟩
    simp only [put] at ih
    simp only [put, BagM.put]
    by_cases hx : p.1 = x
    · rw [if_pos hx, wt, if_pos hx, wt_zero x l fun y hy => by have := h1 y hy; omega, if_neg (by omega)]; simp
    · rw [if_neg hx, wt, if_neg hx, Int.zero_add]
      by_cases hlt : x < p.1
      · rw [if_pos hlt, wt_zero x l fun y hy => by have := h1 y hy; omega, if_pos rfl]; simp
      · rw [if_neg hlt, List.length_cons, List.length_cons, ih]; omega
theorem sumL_put (x n : Int) (l : List Nd) : sumL (put x n l) = sumL l + n := by rw [sumL_M, sumM_put, ← sumL_M]; omega
theorem sumL_del (x : Int) (l : List Nd) : sumL (del x l) = sumL l - wt x l := by
  have := sumM_split (fun _ => 1) x l
  rw [sumL_M, sumL_M]; omega
theorem canon_same {a b : List Nd} (ha : Canon a) (hb : Canon b) (h : ∀ id, wt id a = wt id b) : a = b := canon_ext a b ha hb h

/-- The greatest value that a node holds. -/
def hiF (L id : Int) : Int := loF L id + pw (L - lg id) - 1
/-- What weighs up to a number at least, and at most. -/
def lowS (L y : Int) (l : List Nd) : Int := sumM (fun id => if hiF L id ≤ y then 1 else 0) l
def highS (L y : Int) (l : List Nd) : Int := sumM (fun id => if loF L id ≤ y then 1 else 0) l
/-- How deep all nodes lie. -/
def pot : List Nd → Int
  | [] => 0
  | p :: l => lg p.1 + pot l
theorem pot_nonneg : ∀ l : List Nd, 0 ≤ pot l
  | [] => Int.le_refl _
  | p :: l => by
    have h1 := pot_nonneg l
    have h2 := lg_nonneg p.1
    rw [pot]; omega
theorem pot_del {l : List Nd} (h : Canon l) (x : Int) : pot (del x l) = pot l - if wt x l = 0 then 0 else lg x := by
  induction l with
  | nil => simp [del_nil, pot, wt]
  | cons p l ih =>
    obtain ⟨h1, h2⟩ := List.pairwise_cons.1 h.rise
    have hc := h.cnt p (by simp)
    by_cases hx : p.1 = x
    · have hz := wt_zero x l fun y hy => by have := h1 y hy; omega
      have hd : del x l = l := by
        unfold del
        rw [List.filter_eq_self]
        intro y hy
        have := h1 y hy
        simp; omega
      rw [del_same hx, wt, if_pos hx, hz, if_neg (by omega), hd, pot, hx]; omega
    · have ih := ih ⟨h2, fun y hy => h.cnt y (by simp [hy])⟩
      rw [del_other hx, wt, if_neg hx, Int.zero_add, pot, pot, ih]
      split <;> omega
theorem pot_put {l : List Nd} (h : Canon l) (x n : Int) : pot (put x n l) = pot l + if wt x l = 0 then lg x else 0 := by
  induction l with
  | nil => simp [put, BagM.put, wt, pot]
  | cons p l ih =>
    obtain ⟨h1, h2⟩ := List.pairwise_cons.1 h.rise
    have hc := h.cnt p (by simp)
    have ih := ih ⟨h2, fun y hy => h.cnt y (by simp [hy])⟩
    simp only [put] at ih
    simp only [put, BagM.put]
    by_cases hx : p.1 = x
    · rw [if_pos hx, wt, if_pos hx, wt_zero x l fun y hy => by have := h1 y hy; omega, if_neg (by omega), pot, pot, hx]; simp only [Int.add_zero]
    · rw [if_neg hx, wt, if_neg hx, Int.zero_add]
      by_cases hlt : x < p.1
      · rw [if_pos hlt, wt_zero x l fun y hy => by have := h1 y hy; omega, if_pos rfl, pot, pot]; simp only []; omega
      · rw [if_neg hlt, pot, pot, ih]; split <;> omega
theorem pot_le {L : Int} (hL0 : 0 ≤ L) (hL : L ≤ 48) : ∀ {l : List Nd}, InU L l → pot l ≤ 48 * (l.length : Int)
  | [], _ => by simp [pot]
  | p :: l, h => by
    have ih := pot_le hL0 hL (l := l) fun q hq => h q (by simp [hq])
    obtain ⟨u1, u2⟩ := h p (by simp)
    have := (lg_le u1 hL0).2 u2
    rw [pot, List.length_cons]; omega
/-- A pair, and its parent. -/
def pairS (l : List Nd) (id : Int) : Int := wt (2 * id) l + wt (2 * id + 1) l
def foldAt (id : Int) (l : List Nd) : List Nd := put id (pairS l id) (del (2 * id + 1) (del (2 * id) l))
theorem sumM_fold (g : Int → Int) (id : Int) (l : List Nd) : sumM g (foldAt id l) = sumM g l - wt (2 * id) l * g (2 * id) - wt (2 * id + 1) l * g (2 * id + 1) + pairS l id * g id := by
  unfold foldAt
  have h1 := sumM_split g (2 * id) l
  have h2 := sumM_split g (2 * id + 1) (del (2 * id) l)
  rw [wt_del, if_neg (by omega)] at h2
  rw [sumM_put]
  omega
theorem wt_fold (x id : Int) (l : List Nd) (h : 1 ≤ id) : wt x (foldAt id l) = if x = id then wt id l + pairS l id else if x = 2 * id ∨ x = 2 * id + 1 then 0 else wt x l := by
  unfold foldAt
  rw [wt_put, wt_del, wt_del]
  by_cases h1 : x = id
  · subst h1
    rw [if_pos rfl, if_pos rfl, if_neg (show ¬ x = 2 * x + 1 by omega), if_neg (show ¬ x = 2 * x by omega)]
  · rw [if_neg h1, if_neg (show ¬ id = x by omega)]
    by_cases h2 : x = 2 * id + 1
    · rw [if_pos h2, if_pos (Or.inr h2)]; rfl
    · rw [if_neg h2]
      by_cases h3 : x = 2 * id
      · rw [if_pos h3, if_pos (Or.inl h3)]; rfl
      · rw [if_neg h3, if_neg (by omega)]; omega
section
variable {L id : Int} {l : List Nd}
theorem canon_fold (h : Canon l) (hp : 0 < pairS l id) : Canon (foldAt id l) := canon_put (canon_del (canon_del h _) _) hp
theorem inU_fold (h : InU L l) (h1 : 1 ≤ id) (h2 : id < 2 * pw L) : InU L (foldAt id l) := inU_put (inU_del (inU_del h _) _) h1 h2
theorem sumL_fold : sumL (foldAt id l) = sumL l := by
  rw [sumL_M, sumM_fold, ← sumL_M]
  unfold pairS; omega
theorem pot_fold (hc : Canon l) (h1 : 1 ≤ id) (hL : 1 ≤ L) (h2 : id < pw L) (hp : 0 < pairS l id) : pot (foldAt id l) ≤ pot l - 1 := by
  obtain ⟨_, _, e1, e2, _⟩ := kids_facts hL h1 h2
  have hg := lg_nonneg id
  have q1 := pot_del hc (2 * id)
  have q2 := pot_del (canon_del hc (2 * id)) (2 * id + 1)
  rw [wt_del, if_neg (show ¬ 2 * id + 1 = 2 * id by omega), e2] at q2
  rw [e1] at q1
  have q3 := pot_put (canon_del (canon_del hc (2 * id)) (2 * id + 1)) id (pairS l id)
  unfold foldAt
  rw [q3, q2, q1]
  unfold pairS at hp
  by_cases z1 : wt (2 * id) l = 0
  · have z2 : wt (2 * id + 1) l ≠ 0 := by omega
    rw [if_pos z1, if_neg z2]
    split <;> omega
  · rw [if_neg z1]
    split <;> split <;> omega
theorem hi_kids (h1 : 1 ≤ id) (hL : 1 ≤ L) (h2 : id < pw L) : loF L (2 * id) = loF L id ∧ loF L id ≤ loF L (2 * id + 1) ∧ hiF L (2 * id) ≤ hiF L id ∧ hiF L (2 * id + 1) = hiF L id := by
  obtain ⟨_, _, e1, e2, _, e3, e4, e5⟩ := kids_facts hL h1 h2
  have := pw_pos (L - (lg id + 1))
  unfold hiF
  rw [e1, e2, e3, e4, e5]
  omega
theorem low_fold (y : Int) (hc : Cnt l) (h1 : 1 ≤ id) (hL : 1 ≤ L) (h2 : id < pw L) : lowS L y (foldAt id l) ≤ lowS L y l := by
  obtain ⟨_, _, k3, k4⟩ := hi_kids h1 hL h2
  have w1 := wt_nonneg (2 * id) l hc
  have w2 := wt_nonneg (2 * id + 1) l hc
  unfold lowS
  rw [sumM_fold]
  unfold pairS
  rw [k4]
  by_cases h : hiF L id ≤ y
  · rw [if_pos h, if_pos (by omega)]; omega
  · rw [if_neg h]
    split <;> omega
theorem high_fold (y : Int) (hc : Cnt l) (h1 : 1 ≤ id) (hL : 1 ≤ L) (h2 : id < pw L) : highS L y l ≤ highS L y (foldAt id l) := by
  obtain ⟨k1, k2, _, _⟩ := hi_kids h1 hL h2
  have w1 := wt_nonneg (2 * id) l hc
  have w2 := wt_nonneg (2 * id + 1) l hc
  unfold highS
  rw [sumM_fold]
  unfold pairS
  rw [k1]
  by_cases h : loF L id ≤ y
  · rw [if_pos h]
    split <;> omega
  · rw [if_neg h, if_neg (by omega)]; omega
/-- No node but leaves weighs more than so much. -/
def LightW (L m : Int) (l : List Nd) : Prop := ∀ id, 1 ≤ id → id < pw L → wt id l ≤ m
theorem light_fold {m : Int} (h : LightW L m l) (h1 : 1 ≤ id) (hm : 0 ≤ m) (hr : pairS l id + wt id l ≤ m) : LightW L m (foldAt id l) := fun x h3 h4 => by
  rw [wt_fold x id l h1]
  split
  · omega
  · split
    · exact hm
    · exact h x h3 h4
/-- Where a node's values lie. -/
theorem ends_in (hL : 1 ≤ L) (h1 : 1 ≤ id) (h2 : id < 2 * pw L) : 0 ≤ loF L id ∧ loF L id ≤ hiF L id ∧ hiF L id < pw L := by
  have hd := (lg_le h1 (show 0 ≤ L by omega)).2 h2
  have hb := ends_bound (show 0 ≤ L by omega) h1 h2 (show 0 ≤ L - lg id by omega) (Int.le_refl _)
  have hs := (lg_spec h1).1
  have hp := pw_pos (L - lg id)
  have e : loF L id = id * pw (L - lg id) - pw L := by
    unfold loF
    rw [Int.sub_mul, ← pw_add (lg_nonneg id) (by omega), show lg id + (L - lg id) = L by omega]
  have h0 : 0 ≤ loF L id := by
    unfold loF
    exact Int.mul_nonneg (by omega) (by omega)
  unfold hiF
  omega
end
/-- The node of a depth above a value. -/
def ancF (L y d : Int) : Int := (pw L + y) / pw (L - d)
theorem anc_in {L y d : Int} (hL : 1 ≤ L) (h0 : 0 ≤ y) (h1 : y < pw L) (hd0 : 0 ≤ d) (hd : d < L) : 1 ≤ ancF L y d ∧ ancF L y d < pw L := by
  have hp := pw_pos L
  have e : lg (pw L + y) = L := lg_unique (by omega) (by omega) (by omega)
  obtain ⟨a1, a2⟩ := lg_div (n := pw L + y) (by omega) (show 0 ≤ L - d by omega) (by omega)
  refine ⟨a1, ?_⟩
  unfold ancF
  exact (lg_lt a1 (by omega)).1 (by omega)
theorem deep_le {L y m : Int} {l : List Nd} (hL : 1 ≤ L) (hc : Cnt l) (hu : InU L l) (hl : LightW L m l) (h0 : 0 ≤ y) (h1 : y < pw L) :
    ∀ k : Nat, (k : Int) ≤ L → sumM (fun id => if (loF L id ≤ y ∧ y < hiF L id) ∧ lg id < k then 1 else 0) l ≤ k * m
  | 0, _ => by
    rw [sumM_congr (g := fun _ => 0) (fun p _ => if_neg (fun h => by have := lg_nonneg p.1; omega)), sumM_zero]; omega
  | k + 1, hk => by
    have ih := deep_le hL hc hu hl h0 h1 k (by omega)
    obtain ⟨a1, a2⟩ := anc_in hL h0 h1 (show (0 : Int) ≤ (k : Int) by omega) (by omega)
    have hw := hl _ a1 a2
    rw [wt_M] at hw
    have hle : sumM (fun id => if (loF L id ≤ y ∧ y < hiF L id) ∧ lg id < ((k + 1 : Nat) : Int) then 1 else 0) l ≤
        sumM (fun id => (if (loF L id ≤ y ∧ y < hiF L id) ∧ lg id < (k : Int) then 1 else 0) + (if id = ancF L y (k : Int) then 1 else 0)) l := by
      refine sumM_le hc fun p hp => ?_
      obtain ⟨u1, u2⟩ := hu p hp
      by_cases hcv : loF L p.1 ≤ y ∧ y < hiF L p.1
      · by_cases hlt : lg p.1 < (k : Int)
        · rw [if_pos ⟨hcv, by omega⟩, if_pos ⟨hcv, hlt⟩]; split <;> omega
        · by_cases he : lg p.1 = (k : Int)
          · have hab := (above_leaf hL u1 u2 h0 h1).2 ⟨hcv.1, by have := hcv.2; unfold hiF at this; omega⟩
            unfold aboveB at hab
            have hab := (of_decide_eq_true hab).2.2.2
            have e : lg (pw L + y) = L := lg_unique (by omega) (by have := pw_pos L; omega) (by omega)
            rw [e, he] at hab
            rw [if_pos ⟨hcv, by omega⟩, if_neg (fun h => hlt h.2), if_pos (by rw [← hab]; rfl)]; omega
          · rw [if_neg (fun h => by have := h.2; omega)]
            split <;> split <;> omega
      · rw [if_neg (fun h => hcv h.1), if_neg (fun h => hcv h.1)]; split <;> omega
    rw [← sumM_add] at hle
    have e : ((k + 1 : Nat) : Int) * m = (k : Int) * m + m := by rw [Int.natCast_add, Int.add_mul]; omega
    rw [e]
    omega
/-- How far both ranks may be apart. -/
theorem slack {L y m : Int} {l : List Nd} (hL : 1 ≤ L) (hm : 0 ≤ m) (hc : Cnt l) (hu : InU L l) (hl : LightW L m l) : highS L y l - lowS L y l ≤ L * m := by
  have hLm : 0 ≤ L * m := Int.mul_nonneg (by omega) hm
  unfold highS lowS
  rw [sumM_sub]
  have hsame : sumM (fun id => (if loF L id ≤ y then 1 else 0) - (if hiF L id ≤ y then 1 else 0)) l = sumM (fun id => if loF L id ≤ y ∧ y < hiF L id then 1 else 0) l := sumM_congr fun p hp => by
    obtain ⟨u1, u2⟩ := hu p hp
    obtain ⟨_, v2, _⟩ := ends_in hL u1 u2
    by_cases ha : loF L p.1 ≤ y
    · by_cases hb : hiF L p.1 ≤ y
      · rw [if_pos ha, if_pos hb, if_neg (fun h => by omega)]; omega
      · rw [if_pos ha, if_neg hb, if_pos ⟨ha, by omega⟩]; omega
    · rw [if_neg ha, if_neg (by omega), if_neg (fun h => ha h.1)]; omega
  rw [hsame]
  by_cases h0 : 0 ≤ y ∧ y < pw L
  · have h := deep_le hL hc hu hl h0.1 h0.2 L.toNat (by omega)
    rw [show ((L.toNat : Nat) : Int) = L by omega] at h
    refine Int.le_trans (Int.le_of_eq (sumM_congr fun p hp => ?_)) h
    obtain ⟨u1, u2⟩ := hu p hp
    by_cases hcv : loF L p.1 ≤ y ∧ y < hiF L p.1
    · have hd := (lg_le u1 (show 0 ≤ L by omega)).2 u2
      have hlt : lg p.1 < L := by
        rcases Int.lt_or_eq_of_le hd with h | h
        · exact h
        · exfalso
          have := hcv.2
          unfold hiF at this
          rw [h, show L - L = 0 by omega, pw_zero] at this
          omega
      rw [if_pos hcv, if_pos ⟨hcv, hlt⟩]
    · rw [if_neg hcv, if_neg (fun h => hcv h.1)]
  · rw [sumM_congr (g := fun _ => 0) (fun p hp => by
      obtain ⟨u1, u2⟩ := hu p hp
      obtain ⟨v1, _, v3⟩ := ends_in hL u1 u2
      exact if_neg (fun h => by omega)), sumM_zero]
    exact hLm

/-- Is a pair ready? -/
def readyB (L m : Int) (l : List Nd) (id : Int) : Bool := decide (1 ≤ id ∧ id < pw L ∧ 0 < pairS l id ∧ pairS l id + wt id l ≤ m)
def sumI (f : Int → Int) : List Int → Int
  | [] => 0
  | x :: r => f x + sumI f r
theorem sumI_add (f g : Int → Int) : ∀ P : List Int, sumI (fun x => f x + g x) P = sumI f P + sumI g P
  | [] => rfl
  | x :: P => by simp only [sumI]; rw [sumI_add f g P]; omega
theorem sumI_ge (c : Int) {f : Int → Int} : ∀ {P : List Int}, (∀ x ∈ P, c ≤ f x) → (P.length : Int) * c ≤ sumI f P
  | [], _ => by simp [sumI]
  | x :: P, h => by
    have ih := sumI_ge c (P := P) fun y hy => h y (by simp [hy])
    have := h x (by simp)
    simp only [sumI, List.length_cons]
    rw [Int.natCast_add, Int.add_mul]; omega
theorem sumI_congr {f g : Int → Int} : ∀ {P : List Int}, (∀ x ∈ P, f x = g x) → sumI f P = sumI g P
  | [], _ => rfl
  | x :: P, h => by simp only [sumI]; rw [h x (by simp), sumI_congr fun y hy => h y (by simp [hy])]
theorem wts_le : ∀ (P : List Int) (l : List Nd), P.Nodup → Cnt l → sumI (fun x => wt x l) P ≤ sumL l
  | [], l, _, hc => sumL_nonneg l hc
  | x :: P, l, hP, hc => by
    obtain ⟨h1, h2⟩ := List.nodup_cons.1 hP
    have ih := wts_le P (del x l) h2 fun p hp => hc p (del_mem.1 hp).1
    rw [sumL_del] at ih
    simp only [sumI]
    rw [sumI_congr (f := fun y => wt y l) (g := fun y => wt y (del x l)) fun y hy => by
      have hne : y ≠ x := fun e => h1 (by rw [← e]; exact hy)
      show wt y l = wt y (del x l)
      rw [wt_del, if_neg hne]]
    omega
/-- The parents of all nodes: at least half as many. -/
theorem parents_all : ∀ (n : Nat) (l : List Nd), l.length ≤ n → Canon l → (∀ p ∈ l, 1 ≤ p.1) →
    ∃ P : List Int, P.Nodup ∧ (∀ q ∈ P, 1 ≤ q ∧ 0 < pairS l q) ∧ l.length ≤ 1 + 2 * P.length ∧ sumI (pairS l) P ≤ sumL l := by
  intro n
  induction n with
  | zero =>
    intro l hl hc hu
    obtain rfl := List.eq_nil_of_length_eq_zero (by omega : l.length = 0)
    exact ⟨[], List.nodup_nil, (fun q hq => by cases hq), by simp, by simp [sumI, sumL]⟩
  | succ n ih =>
    intro l hl hc hu
    by_cases hex : ∃ p ∈ l, 2 ≤ p.1
    · obtain ⟨p, hp, h2⟩ := hex
      obtain ⟨q, hq⟩ : ∃ q, p.1 / 2 = q := ⟨_, rfl⟩
      have hpq : p.1 = 2 * q ∨ p.1 = 2 * q + 1 := by omega
      have hwp : 0 < wt p.1 l := by rw [wt_mem hc hp]; exact hc.cnt p hp
      have w1 := wt_nonneg (2 * q) l hc.cntL
      have w2 := wt_nonneg (2 * q + 1) l hc.cntL
      have hpair : 0 < pairS l q := by unfold pairS; rcases hpq with e | e <;> rw [e] at hwp <;> omega
      have hc1 := canon_del hc (2 * q)
      have hc2 := canon_del hc1 (2 * q + 1)
      have hl1 := len_del hc (2 * q)
      have hl2 := len_del hc1 (2 * q + 1)
      rw [wt_del, if_neg (show ¬ 2 * q + 1 = 2 * q by omega)] at hl2
      have hs : sumL (del (2 * q + 1) (del (2 * q) l)) = sumL l - pairS l q := by
        rw [sumL_del, sumL_del, wt_del, if_neg (show ¬ 2 * q + 1 = 2 * q by omega)]
        unfold pairS; omega
      have hpos := List.length_pos_of_mem hp
      have hlen : (del (2 * q + 1) (del (2 * q) l)).length ≤ n ∧ l.length ≤ (del (2 * q + 1) (del (2 * q) l)).length + 2 := by
        refine ⟨?_, ?_⟩
        · by_cases h1 : wt (2 * q) l = 0
          · have h3 : wt (2 * q + 1) l ≠ 0 := by unfold pairS at hpair; omega
            rw [if_pos h1] at hl1
            rw [if_neg h3] at hl2
            omega
          · rw [if_neg h1] at hl1
            have := del_len (2 * q + 1) (del (2 * q) l)
            omega
        · split at hl1 <;> split at hl2 <;> omega
      obtain ⟨P, p1, p2, p3, p4⟩ := ih _ hlen.1 hc2 fun x hx => hu x (del_mem.1 (del_mem.1 hx).1).1
      have hne : ∀ x, x ≠ q → pairS (del (2 * q + 1) (del (2 * q) l)) x = pairS l x := fun x hx => by
        unfold pairS
        rw [wt_del, wt_del, wt_del, wt_del, if_neg (show ¬ 2 * x = 2 * q + 1 by omega), if_neg (show ¬ 2 * x = 2 * q by omega), if_neg (show ¬ 2 * x + 1 = 2 * q + 1 by omega), if_neg (show ¬ 2 * x + 1 = 2 * q by omega)]
      have hself : pairS (del (2 * q + 1) (del (2 * q) l)) q = 0 := by
        unfold pairS
        rw [wt_del, wt_del, wt_del, if_neg (show ¬ 2 * q = 2 * q + 1 by omega), if_pos rfl, if_pos rfl]; rfl
      have hnot : q ∉ P := fun h => by have := (p2 q h).2; omega
      refine ⟨q :: P, List.nodup_cons.2 ⟨hnot, p1⟩, ?_, ?_, ?_⟩
      · intro x hx
        rcases List.mem_cons.1 hx with rfl | hx
        · exact ⟨by omega, hpair⟩
        · have := p2 x hx
          rw [hne x (fun e => hnot (by rw [← e]; exact hx))] at this
          exact this
      · simp only [List.length_cons]; omega
      · simp only [sumI]
        rw [sumI_congr (g := pairS (del (2 * q + 1) (del (2 * q) l))) fun x hx => (hne x (fun e => hnot (by rw [← e]; exact hx))).symm]
        omega
    · refine ⟨[], List.nodup_nil, (fun q hq => by cases hq), ?_, sumL_nonneg l hc.cntL⟩
      have hone : ∀ p ∈ l, p.1 = 1 := fun p hp => by
        have h1 := hu p hp
        have h2 : ¬ 2 ≤ p.1 := fun h => hex ⟨p, hp, h⟩
        omega
      match l, hc, hone with
      | [], _, _ => simp
      | [p], _, _ => simp
      | p :: q :: l, hc, hone =>
        have h1 := (List.pairwise_cons.1 hc.rise).1 q (by simp)
        have h2 := hone p (by simp)
        have h3 := hone q (by simp)
        omega
/-- Once nothing is ready there are not many nodes. -/
theorem tight_len {L k : Int} {l : List Nd} (hk : 1 ≤ k) (hc : Canon l) (hu : InU L l) (h : ∀ id, readyB L (sumL l / k) l id = false) : (l.length : Int) ≤ 4 * k - 1 := by
  obtain ⟨P, p1, p2, p3, p4⟩ := parents_all l.length l (Nat.le_refl _) hc fun p hp => (hu p hp).1
  obtain ⟨m, hm⟩ : ∃ m, sumL l / k = m := ⟨_, rfl⟩
  rw [hm] at h
  have hN := sumL_nonneg l hc.cntL
  have hm0 : 0 ≤ m := by rw [← hm]; exact Int.ediv_nonneg hN (by omega)
  have hlt : sumL l < k * (m + 1) := by
    rw [← hm, Int.mul_comm]
    exact Int.lt_ediv_add_one_mul_self _ (by omega)
  have hall : ∀ x ∈ P, m + 1 ≤ pairS l x + wt x l := fun x hx => by
    obtain ⟨x1, x2⟩ := p2 x hx
    have hr := of_decide_eq_false (h x)
    have hx3 : x < pw L := by
      unfold pairS at x2
      have hex : ∃ p ∈ l, p.1 = 2 * x ∨ p.1 = 2 * x + 1 := by
        by_cases e : wt (2 * x) l = 0
        · obtain ⟨p, hp, e2⟩ := mem_wt (show wt (2 * x + 1) l ≠ 0 by omega)
          exact ⟨p, hp, .inr e2⟩
        · obtain ⟨p, hp, e2⟩ := mem_wt e
          exact ⟨p, hp, .inl e2⟩
      obtain ⟨p, hp, e⟩ := hex
      have := (hu p hp).2
      omega
    refine Int.not_lt.1 fun k => hr ⟨x1, hx3, x2, by omega⟩
  have h1 := sumI_ge (m + 1) hall
  rw [sumI_add] at h1
  have h2 := wts_le P l p1 hc.cntL
  have h3 : (P.length : Int) * (m + 1) < (2 * k) * (m + 1) := by
    have : (2 * k) * (m + 1) = 2 * (k * (m + 1)) := Int.mul_assoc _ _ _
    omega
  have h4 : (P.length : Int) < 2 * k := Int.lt_of_mul_lt_mul_right h3 (by omega)
  omega
end StoM
end Go.Proofs.YteebghoijaaakaaGreat
/- Plain facts on the agenda of folds: its heap as a list, and what a whole run of folds makes of a store. No program in sight. By the prover of this repo. -/
namespace Go.Proofs.YteebghoijaaakaaGreat
namespace StoM
open TwigM RollM Go.RowKit

/-- Does a node stand ahead of another one? -/
def aheadF (a b : Int) : Bool := if (depthF a).1 = (depthF b).1 then decide (a < b) else decide ((depthF b).1 < (depthF a).1)
def swapL (h : List Int) (i j : Nat) : List Int := (h.set i (h.getD j 0)).set j (h.getD i 0)
/-- What was put last moves up to its place. -/
def upG : Nat → List Int → Nat → List Int
  | 0, h, _ => h
  | f + 1, h, i => if 0 < i ∧ aheadF (h.getD i 0) (h.getD ((i - 1) / 2) 0) = true then upG f (swapL h i ((i - 1) / 2)) ((i - 1) / 2) else h
/-- The first of a place and those behind it. -/
def bestF (h : List Int) (i : Nat) : Nat :=
  (fun f => if 2 * i + 2 < h.length ∧ aheadF (h.getD (2 * i + 2) 0) (h.getD f 0) = true then 2 * i + 2 else f) (if 2 * i + 1 < h.length ∧ aheadF (h.getD (2 * i + 1) 0) (h.getD i 0) = true then 2 * i + 1 else i)
/-- What stands first moves down to its place. -/
def dnG : Nat → List Int → Nat → List Int
  | 0, h, _ => h
  | f + 1, h, i => if bestF h i = i then h else dnG f (swapL h i (bestF h i)) (bestF h i)
def putA (h : List Int) (id : Int) : List Int := if id < 1 ∨ id ∈ h then h else upG h.length (h ++ [id]) h.length
def popA (h : List Int) : List Int := dnG h.length ((h.set 0 (h.getD (h.length - 1) 0)).take (h.length - 1)) 0

theorem swapL_len (h : List Int) (i j : Nat) : (swapL h i j).length = h.length := by unfold swapL; simp
theorem swapL_perm {h : List Int} {i j : Nat} (hi : i < h.length) (hj : j < h.length) : (swapL h i j).Perm h := by
  rw [List.perm_iff_count]
  intro a
  have e1 : h.getD i 0 = h[i] := by rw [List.getD_eq_getElem?_getD, List.getElem?_eq_getElem hi]; rfl
  have e2 : h.getD j 0 = h[j] := by rw [List.getD_eq_getElem?_getD, List.getElem?_eq_getElem hj]; rfl
  have e0 : swapL h i j = (h.set i h[j]).set j h[i] := by unfold swapL; rw [e1, e2]
  have hc1 : h[i] = a → 0 < h.count a := fun e => List.count_pos_iff.2 (e ▸ List.getElem_mem hi)
  have hc2 : h[j] = a → 0 < h.count a := fun e => List.count_pos_iff.2 (e ▸ List.getElem_mem hj)
  rw [e0, List.count_set (by simpa using hj), List.count_set hi]
  by_cases hij : i = j
  · subst hij
    rw [List.getElem_set_self]
    by_cases ha : h[i] = a
    · have := hc1 ha
      simp [ha]
      try omega
    · simp [ha]
  · rw [List.getElem_set_ne (by omega)]
    by_cases ha : h[i] = a
    · have := hc1 ha
      by_cases hb : h[j] = a
      · simp [ha, hb]
        try omega
      · simp [ha, hb]
        try omega
    · by_cases hb : h[j] = a
      · have := hc2 hb
        simp [ha, hb]
        try omega
      · simp [ha, hb]
theorem upG_perm : ∀ (f : Nat) (h : List Int) (i : Nat), i < h.length → (upG f h i).Perm h
  | 0, h, i, _ => List.Perm.refl _
  | f + 1, h, i, hi => by
    rw [upG]
    split
    · exact (upG_perm f _ _ (by rw [swapL_len]; omega)).trans (swapL_perm hi (by omega))
    · exact List.Perm.refl _
theorem bestF_lt (h : List Int) (i : Nat) (hi : i < h.length) : i ≤ bestF h i ∧ bestF h i < h.length := by
  unfold bestF
  simp only []
  by_cases h1 : 2 * i + 1 < h.length ∧ aheadF (h.getD (2 * i + 1) 0) (h.getD i 0) = true
  · rw [if_pos h1]
    split <;> omega
  · rw [if_neg h1]
    split <;> omega
theorem dnG_perm : ∀ (f : Nat) (h : List Int) (i : Nat), i < h.length → (dnG f h i).Perm h
  | 0, h, i, _ => List.Perm.refl _
  | f + 1, h, i, hi => by
    rw [dnG]
    split
    · exact List.Perm.refl _
    · have hb := bestF_lt h i hi
      exact (dnG_perm f _ _ (by rw [swapL_len]; omega)).trans (swapL_perm hi hb.2)
theorem dnG_nil (f i : Nat) : dnG f [] i = [] := by
  induction f generalizing i with
  | zero => rfl
  | succ f ih =>
    rw [dnG]
    split
    · rfl
    · have : swapL [] i (bestF [] i) = [] := by unfold swapL; simp
      rw [this, ih]
theorem putA_mem (h : List Int) (id x : Int) : x ∈ putA h id ↔ x ∈ h ∨ (x = id ∧ 1 ≤ id) := by
  unfold putA
  split
  · rename_i hc
    constructor
    · intro hx; exact .inl hx
    · rintro (hx | ⟨rfl, h1⟩)
      · exact hx
      · rcases hc with hc | hc
        · omega
        · exact hc
  · rename_i hc
    rw [(upG_perm h.length (h ++ [id]) h.length (by simp)).mem_iff, List.mem_append, List.mem_singleton]
    constructor
    · rintro (hx | hx)
      · exact .inl hx
      · exact .inr ⟨hx, by omega⟩
    · rintro (hx | hx)
      · exact .inl hx
      · exact .inr hx.1
theorem putA_nodup {h : List Int} (hn : h.Nodup) (id : Int) : (putA h id).Nodup := by
  unfold putA
  split
  · exact hn
  · rename_i hc
    rw [(upG_perm h.length (h ++ [id]) h.length (by simp)).nodup_iff, List.nodup_append]
    refine ⟨hn, by simp, fun a ha b hb => ?_⟩
    rw [List.mem_singleton] at hb
    subst hb
    exact fun e => hc (.inr (e ▸ ha))
theorem putA_len (h : List Int) (id : Int) : (putA h id).length ≤ h.length + 1 := by
  unfold putA
  split
  · omega
  · rw [(upG_perm h.length (h ++ [id]) h.length (by simp)).length_eq]; simp
theorem popA_perm (x : Int) (T : List Int) : (popA (x :: T)).Perm T := by
  unfold popA
  simp only [List.length_cons, Nat.add_sub_cancel]
  cases hT : T.reverse with
  | nil =>
    have : T = [] := by simpa using hT
    subst this
    rw [show List.take ([] : List Int).length ([x].set 0 ([x].getD ([] : List Int).length 0)) = [] by simp, dnG_nil]
  | cons y R =>
    have e : T = R.reverse ++ [y] := by
      have := congrArg List.reverse hT
      simpa using this
    have hl : T.length = R.length + 1 := by rw [e]; simp
    have e2 : (x :: T).getD T.length 0 = y := by
      rw [List.getD_eq_getElem?_getD, hl, List.getElem?_cons_succ, e]
      simp
    have e3 : ((x :: T).set 0 y).take T.length = y :: R.reverse := by
      rw [List.set_cons_zero, hl, List.take_succ_cons, e]
      simp
    rw [e2, e3]
    refine (dnG_perm _ _ _ (by simp)).trans ?_
    rw [e]
    exact List.perm_append_comm (l₁ := [y])
/-- What is put, one behind the other. -/
def putsA (h : List Int) (l : List Int) : List Int := l.foldl putA h
theorem putsA_mem (x : Int) : ∀ (l h : List Int), x ∈ putsA h l ↔ x ∈ h ∨ (x ∈ l ∧ 1 ≤ x)
  | [], h => by simp [putsA]
  | y :: l, h => by
    show x ∈ putsA (putA h y) l ↔ _
    rw [putsA_mem x l, putA_mem, List.mem_cons]
    constructor
    · rintro ((h1 | ⟨rfl, h2⟩) | h1)
      · exact .inl h1
      · exact .inr ⟨.inl rfl, h2⟩
      · exact .inr ⟨.inr h1.1, h1.2⟩
    · rintro (h1 | ⟨rfl | h1, h2⟩)
      · exact .inl (.inl h1)
      · exact .inl (.inr ⟨rfl, h2⟩)
      · exact .inr ⟨h1, h2⟩
theorem putsA_nodup : ∀ (l h : List Int), h.Nodup → (putsA h l).Nodup
  | [], _, hn => hn
  | y :: l, h, hn => putsA_nodup l _ (putA_nodup hn y)
theorem putsA_len : ∀ (l h : List Int), (putsA h l).length ≤ h.length + l.length
  | [], h => by simp [putsA]
  | y :: l, h => by
    have h1 := putsA_len l (putA h y)
    have h2 := putA_len h y
    show (putsA (putA h y) l).length ≤ _
    rw [List.length_cons]; omega
/-- All of a heap, in their order. -/
def popsA : Nat → List Int → List Int
  | 0, _ => []
  | _ + 1, [] => []
  | f + 1, x :: T => x :: popsA f (popA (x :: T))
theorem popsA_perm : ∀ (f : Nat) (h : List Int), h.length ≤ f → (popsA f h).Perm h
  | 0, h, hl => by obtain rfl := List.eq_nil_of_length_eq_zero (by omega : h.length = 0); exact List.Perm.refl _
  | f + 1, [], _ => List.Perm.refl _
  | f + 1, x :: T, hl => by
    have hp := popA_perm x T
    have := popsA_perm f (popA (x :: T)) (by rw [hp.length_eq]; simp at hl; omega)
    exact (this.trans hp).cons x
/-- The parents of all nodes, in the order of folding. -/
def parF (l : List Nd) : List Int := popsA (putsA [] (l.map fun p => p.1 / 2)).length (putsA [] (l.map fun p => p.1 / 2))
def startF (l : List Nd) : List Int := putsA [] (parF l)
theorem parF_mem (l : List Nd) (x : Int) : x ∈ parF l ↔ (∃ p ∈ l, p.1 / 2 = x) ∧ 1 ≤ x := by
  unfold parF
  rw [(popsA_perm _ _ (Nat.le_refl _)).mem_iff, putsA_mem]
  simp
theorem parF_len (l : List Nd) : (parF l).length ≤ l.length := by
  unfold parF
  rw [(popsA_perm _ _ (Nat.le_refl _)).length_eq]
  have := putsA_len (l.map fun p => p.1 / 2) []
  simpa using this
theorem startF_mem (l : List Nd) (x : Int) : x ∈ startF l ↔ (∃ p ∈ l, p.1 / 2 = x) ∧ 1 ≤ x := by
  unfold startF
  rw [putsA_mem, parF_mem]
  simp only [List.not_mem_nil, false_or]
  constructor
  · intro h; exact h.1
  · intro h; exact ⟨h, h.2⟩
theorem startF_nodup (l : List Nd) : (startF l).Nodup := putsA_nodup _ _ List.nodup_nil
theorem startF_len (l : List Nd) : (startF l).length ≤ l.length := by
  have h1 := putsA_len (parF l) []
  have h2 := parF_len l
  unfold startF
  simp at h1; omega
/-- The agenda behind a fold. -/
def nextA (h : List Int) (x : Int) : List Int := putA (putA (putA h (2 * x)) (2 * x + 1)) (x / 2)
theorem nextA_mem (h : List Int) (x y : Int) (hx : 1 ≤ x) : y ∈ nextA h x ↔ y ∈ h ∨ y = 2 * x ∨ y = 2 * x + 1 ∨ (y = x / 2 ∧ 1 ≤ y) := by
  unfold nextA
  rw [putA_mem, putA_mem, putA_mem]
  constructor
  · rintro (((h | h) | h) | h)
    · exact .inl h
    · exact .inr (.inl h.1)
    · exact .inr (.inr (.inl h.1))
    · exact .inr (.inr (.inr ⟨h.1, by omega⟩))
  · rintro (h | h | h | h)
    · exact .inl (.inl (.inl h))
    · exact .inl (.inl (.inr ⟨h, by omega⟩))
    · exact .inl (.inr ⟨h, by omega⟩)
    · exact .inr ⟨h.1, by omega⟩
theorem nextA_nodup {h : List Int} (hn : h.Nodup) (x : Int) : (nextA h x).Nodup := putA_nodup (putA_nodup (putA_nodup hn _) _) _
theorem nextA_len (h : List Int) (x : Int) : (nextA h x).length ≤ h.length + 3 := by
  unfold nextA
  have h1 := putA_len h (2 * x)
  have h2 := putA_len (putA h (2 * x)) (2 * x + 1)
  have h3 := putA_len (putA (putA h (2 * x)) (2 * x + 1)) (x / 2)
  omega
/-- A run of folds: the nodes then, and how often. -/
def runF (L m : Int) : Nat → List Nd → List Int → List Nd × Nat
  | 0, l, _ => (l, 0)
  | _ + 1, l, [] => (l, 0)
  | f + 1, l, x :: T => if readyB L m l x = true then ((runF L m f (foldAt x l) (nextA (popA (x :: T)) x)).1, (runF L m f (foldAt x l) (nextA (popA (x :: T)) x)).2 + 1) else runF L m f l (popA (x :: T))
/-- How long a run may be. -/
def meas (l : List Nd) (h : List Int) : Nat := 4 * (pot l).toNat + h.length
theorem ready_iff {L m : Int} {l : List Nd} {id : Int} : readyB L m l id = true ↔ 1 ≤ id ∧ id < pw L ∧ 0 < pairS l id ∧ pairS l id + wt id l ≤ m := by unfold readyB; rw [decide_eq_true_eq]
/-- What all of a run keeps. -/
structure Kept (L m : Int) (l0 l : List Nd) : Prop where
  canon : Canon l
  inU : InU L l
  sum : sumL l = sumL l0
  low : ∀ y, lowS L y l ≤ lowS L y l0
  high : ∀ y, highS L y l0 ≤ highS L y l
  light : LightW L m l0 → LightW L m l
  len : l.length ≤ l0.length + 1
theorem len_fold {l : List Nd} (hc : Canon l) {x : Int} (h1 : 1 ≤ x) (hp : 0 < pairS l x) : (foldAt x l).length ≤ l.length := by
  have hc1 := canon_del hc (2 * x)
  have hc2 := canon_del hc1 (2 * x + 1)
  have h1' := len_del hc (2 * x)
  have h2' := len_del hc1 (2 * x + 1)
  rw [wt_del, if_neg (show ¬ 2 * x + 1 = 2 * x by omega)] at h2'
  have h3 := len_put hc2 x (pairS l x)
  have hpos : 0 < l.length := by
    unfold pairS at hp
    by_cases e : wt (2 * x) l = 0
    · obtain ⟨p, hp, _⟩ := mem_wt (show wt (2 * x + 1) l ≠ 0 by omega)
      exact List.length_pos_of_mem hp
    · obtain ⟨p, hp, _⟩ := mem_wt e
      exact List.length_pos_of_mem hp
  have hsome : (del (2 * x + 1) (del (2 * x) l)).length + 1 ≤ l.length := by
    by_cases e : wt (2 * x) l = 0
    · have e2 : wt (2 * x + 1) l ≠ 0 := by unfold pairS at hp; omega
      rw [if_pos e] at h1'
      rw [if_neg e2] at h2'
      omega
    · rw [if_neg e] at h1'
      have := del_len (2 * x + 1) (del (2 * x) l)
      omega
  unfold foldAt
  rw [h3]
  split <;> omega
theorem Kept.refl {L m : Int} {l : List Nd} (hc : Canon l) (hu : InU L l) : Kept L m l l := ⟨hc, hu, rfl, fun _ => Int.le_refl _, fun _ => Int.le_refl _, id, by omega⟩
theorem Kept.trans {L m : Int} {a b c : List Nd} (h : Kept L m a b) (k : Kept L m b c) (hl : c.length ≤ a.length + 1) : Kept L m a c :=
  ⟨k.canon, k.inU, k.sum.trans h.sum, fun y => Int.le_trans (k.low y) (h.low y), fun y => Int.le_trans (h.high y) (k.high y), fun x => k.light (h.light x), hl⟩
theorem fold_kept {L m : Int} {l : List Nd} (hL : 1 ≤ L) (hc : Canon l) (hu : InU L l) {x : Int} (hr : readyB L m l x = true) : Kept L m l (foldAt x l) := by
  obtain ⟨h1, h2, h3, h4⟩ := ready_iff.1 hr
  have hw := wt_nonneg x l hc.cntL
  exact ⟨canon_fold hc h3, inU_fold hu h1 (by have := pw_pos L; omega), sumL_fold, fun y => low_fold y hc.cntL h1 hL h2, fun y => high_fold y hc.cntL h1 hL h2, fun h => light_fold h h1 (by omega) h4, by have := len_fold hc h1 h3; omega⟩
theorem meas_fold {L m : Int} {l : List Nd} (hL : 1 ≤ L) (hc : Canon l) (hu : InU L l) {x : Int} {T : List Int} (hr : readyB L m l x = true) : meas (foldAt x l) (nextA (popA (x :: T)) x) < meas l (x :: T) := by
  obtain ⟨h1, h2, h3, h4⟩ := ready_iff.1 hr
  have k := fold_kept (m := m) hL hc hu hr
  have h5 := pot_fold hc h1 hL h2 h3
  have h6 := pot_nonneg (foldAt x l)
  have h7 := nextA_len (popA (x :: T)) x
  rw [(popA_perm x T).length_eq] at h7
  unfold meas
  simp only [List.length_cons]
  omega
theorem meas_le {L : Int} {l : List Nd} (hL0 : 0 ≤ L) (hL : L ≤ 48) (hu : InU L l) : meas l (startF l) ≤ 193 * l.length := by
  have h1 := pot_le hL0 hL hu
  have h2 := startF_len l
  unfold meas
  omega
theorem meas_pop {l : List Nd} {x : Int} {T : List Int} : meas l (popA (x :: T)) < meas l (x :: T) := by
  unfold meas
  rw [(popA_perm x T).length_eq]
  simp
/-- A fold turns readiness of few others. -/
theorem ready_fold {L m : Int} {l : List Nd} (hc : Cnt l) {x y : Int} (hr : readyB L m l x = true) (hy : readyB L m (foldAt x l) y = true) : readyB L m l y = true ∨ y = 2 * x ∨ y = 2 * x + 1 ∨ y = x / 2 := by
  obtain ⟨h1, h2, h3, h4⟩ := ready_iff.1 hr
  obtain ⟨y1, y2, y3, y4⟩ := ready_iff.1 hy
  by_cases e1 : y = 2 * x
  · exact .inr (.inl e1)
  by_cases e2 : y = 2 * x + 1
  · exact .inr (.inr (.inl e2))
  by_cases e3 : y = x / 2
  · exact .inr (.inr (.inr e3))
  have w1 := wt_fold (2 * y) x l h1
  have w2 := wt_fold (2 * y + 1) x l h1
  have w3 := wt_fold y x l h1
  rw [if_neg (show ¬ 2 * y = x by omega)] at w1
  rw [if_neg (show ¬ 2 * y + 1 = x by omega)] at w2
  by_cases e4 : y = x
  · subst e4
    rw [if_pos (Or.inl rfl)] at w1
    rw [if_pos (Or.inr rfl)] at w2
    unfold pairS at y3
    omega
  · rw [if_neg (show ¬ (2 * y = 2 * x ∨ 2 * y = 2 * x + 1) by omega)] at w1
    rw [if_neg (show ¬ (2 * y + 1 = 2 * x ∨ 2 * y + 1 = 2 * x + 1) by omega)] at w2
    rw [if_neg e4, if_neg (show ¬ (y = 2 * x ∨ y = 2 * x + 1) by omega)] at w3
    refine .inl (ready_iff.2 ⟨y1, y2, ?_, ?_⟩)
    · unfold pairS at y3 ⊢; omega
    · unfold pairS at y4 ⊢; omega
/-- A whole run: what it keeps; and nothing is ready then. -/
theorem run_all (L m : Int) (hL : 1 ≤ L) : ∀ (f : Nat) (l : List Nd) (h : List Int), meas l h ≤ f → Canon l → InU L l → (∀ y, readyB L m l y = true → y ∈ h) →
    Kept L m l (runF L m f l h).1 ∧ (runF L m f l h).1.length ≤ l.length ∧ ∀ y, readyB L m (runF L m f l h).1 y = false
  | 0, l, h, hf, hc, hu, hr => by
    obtain rfl := List.eq_nil_of_length_eq_zero (show h.length = 0 by unfold meas at hf; omega)
    refine ⟨Kept.refl hc hu, Nat.le_refl _, fun y => Bool.eq_false_iff.2 fun k => ?_⟩
    cases hr y k
  | f + 1, l, [], hf, hc, hu, hr => by
    refine ⟨Kept.refl hc hu, Nat.le_refl _, fun y => Bool.eq_false_iff.2 fun k => ?_⟩
    cases hr y k
  | f + 1, l, x :: T, hf, hc, hu, hr => by
    rw [runF]
    split
    · rename_i hx
      have k := fold_kept hL hc hu hx
      have hm := meas_fold (T := T) hL hc hu hx
      have hlen := len_fold hc (ready_iff.1 hx).1 (ready_iff.1 hx).2.2.1
      have hx1 := (ready_iff.1 hx).1
      obtain ⟨i1, i2, i3⟩ := run_all L m hL f (foldAt x l) (nextA (popA (x :: T)) x) (by omega) k.canon k.inU fun y hy => by
        rw [nextA_mem _ _ _ hx1, (popA_perm x T).mem_iff]
        have hy1 := (ready_iff.1 hy).1
        rcases ready_fold hc.cntL hx hy with h | h | h | h
        · rcases List.mem_cons.1 (hr y h) with e | e
          · exfalso
            subst e
            have hy3 := (ready_iff.1 hy).2.2.1
            have w1 := wt_fold (2 * y) y l hx1
            have w2 := wt_fold (2 * y + 1) y l hx1
            rw [if_neg (show ¬ 2 * y = y by omega), if_pos (Or.inl rfl)] at w1
            rw [if_neg (show ¬ 2 * y + 1 = y by omega), if_pos (Or.inr rfl)] at w2
            unfold pairS at hy3
            omega
          · exact .inl e
        · exact .inr (.inl h)
        · exact .inr (.inr (.inl h))
        · exact .inr (.inr (.inr ⟨h, hy1⟩))
      exact ⟨k.trans i1 (Nat.le_trans i2 (by omega)), Nat.le_trans i2 hlen, i3⟩
    · rename_i hx
      have hm := meas_pop (l := l) (x := x) (T := T)
      obtain ⟨i1, i2, i3⟩ := run_all L m hL f l (popA (x :: T)) (by omega) hc hu fun y hy => by
        rw [(popA_perm x T).mem_iff]
        rcases List.mem_cons.1 (hr y hy) with e | e
        · subst e; exact absurd hy hx
        · exact e
      exact ⟨i1, i2, i3⟩
/-- A store, folded for a k. -/
def pressF (L K : Int) (l : List Nd) : List Nd × Nat := runF L (sumL l / K) (meas l (startF l)) l (startF l)
theorem press_all {L K : Int} {l : List Nd} (hL : 1 ≤ L) (hK : 1 ≤ K) (hc : Canon l) (hu : InU L l) :
    Kept L (sumL l / K) l (pressF L K l).1 ∧ (pressF L K l).1.length ≤ l.length ∧ ((pressF L K l).1.length : Int) ≤ 4 * K - 1 := by
  obtain ⟨h1, h2, h3⟩ := run_all L (sumL l / K) hL (meas l (startF l)) l (startF l) (Nat.le_refl _) hc hu fun y hy => by
    obtain ⟨y1, y2, y3, y4⟩ := ready_iff.1 hy
    rw [startF_mem]
    refine ⟨?_, y1⟩
    unfold pairS at y3
    by_cases e : wt (2 * y) l = 0
    · obtain ⟨p, hp, e2⟩ := mem_wt (show wt (2 * y + 1) l ≠ 0 by omega)
      exact ⟨p, hp, by omega⟩
    · obtain ⟨p, hp, e2⟩ := mem_wt e
      exact ⟨p, hp, by omega⟩
  refine ⟨h1, h2, ?_⟩
  have hs := h1.sum
  refine tight_len hK h1.canon h1.inU fun id => ?_
  show readyB L (sumL (pressF L K l).1 / K) (pressF L K l).1 id = false
  have e : sumL (pressF L K l).1 = sumL l := hs
  rw [e]
  exact h3 id
end StoM
end Go.Proofs.YteebghoijaaakaaGreat
/- Plain facts on a table that is looked through: nodes in slots, each found from its home on; one put, one taken away with those behind it put back. No program in sight. By the prover of this repo. -/
namespace Go.Proofs.YteebghoijaaakaaGreat
namespace StoM
open TwigM RollM Go.RowKit

/-- How many steps it is from a slot on to another one, around. -/
def wayN (n a b : Nat) : Nat := if a ≤ b then b - a else b + n - a
def nxtN (n i : Nat) : Nat := if i + 1 = n then 0 else i + 1
def cntA (S : List Nd) (i : Nat) : Int := (S.getD i (0, 0)).2
def idA (S : List Nd) (i : Nat) : Int := (S.getD i (0, 0)).1
/-- What slots have. -/
def occ (S : List Nd) : List Nd := S.filter fun p => decide (0 < p.2)
theorem getD_of {S : List Nd} {i : Nat} (h : i < S.length) : S.getD i (0, 0) = S[i] := by rw [List.getD_eq_getElem?_getD, List.getElem?_eq_getElem h]; rfl
theorem getD_set (S : List Nd) (i j : Nat) (v : Nd) : (S.set i v).getD j (0, 0) = if i = j ∧ i < S.length then v else S.getD j (0, 0) := by
  rw [List.getD_eq_getElem?_getD, List.getElem?_set, List.getD_eq_getElem?_getD]
  by_cases h : i = j
  · subst h
    by_cases h2 : i < S.length
    · rw [if_pos rfl, if_pos h2, if_pos ⟨rfl, h2⟩]; try rfl
    · rw [if_pos rfl, if_neg h2, if_neg (fun k => h2 k.2), List.getElem?_eq_none (by omega)]; try rfl
  · rw [if_neg h, if_neg (fun k => h k.1)]
theorem wt_occ_cons (x : Int) (p : Nd) (S : List Nd) : wt x (occ (p :: S)) = (if p.1 = x ∧ 0 < p.2 then p.2 else 0) + wt x (occ S) := by
  unfold occ
  by_cases hp : 0 < p.2
  · rw [List.filter_cons_of_pos (by simpa using hp), wt]
    simp only [hp, and_true]
  · rw [List.filter_cons_of_neg (by simpa using hp), if_neg (fun k => hp k.2), Int.zero_add]
theorem wt_occ_set (x : Int) : ∀ (S : List Nd) (i : Nat) (v : Nd), i < S.length →
    wt x (occ (S.set i v)) = wt x (occ S) - (if idA S i = x ∧ 0 < cntA S i then cntA S i else 0) + (if v.1 = x ∧ 0 < v.2 then v.2 else 0)
  | [], i, v, h => by simp at h
  | p :: S, 0, v, _ => by
    have e1 : idA (p :: S) 0 = p.1 := rfl
    have e2 : cntA (p :: S) 0 = p.2 := rfl
    rw [e1, e2, List.set_cons_zero, wt_occ_cons, wt_occ_cons]; omega
  | p :: S, i + 1, v, h => by
    have ih := wt_occ_set x S i v (by simpa using h)
    have e1 : idA (p :: S) (i + 1) = idA S i := rfl
    have e2 : cntA (p :: S) (i + 1) = cntA S i := rfl
    rw [e1, e2, List.set_cons_succ, wt_occ_cons, wt_occ_cons, ih]; omega
theorem wt_ge {p : Nd} : ∀ {Q : List Nd}, p ∈ Q → Cnt Q → p.2 ≤ wt p.1 Q
  | [], h, _ => by cases h
  | q :: Q, h, hc => by
    rw [wt]
    have h0 := wt_nonneg p.1 Q fun x hx => hc x (by simp [hx])
    have h1 := hc q (by simp)
    rcases List.mem_cons.1 h with rfl | hq
    · rw [if_pos rfl]; omega
    · have := wt_ge hq fun x hx => hc x (by simp [hx])
      split <;> omega

/-- A table that has some nodes, each of which is found from its home on. -/
structure Tab (hm : Int → Nat) (S : List Nd) (l : List Nd) : Prop where
  pos : ∀ i, 0 ≤ cntA S i
  path : ∀ j, j < S.length → 0 < cntA S j → ∀ k, k < S.length → wayN S.length (hm (idA S j)) k < wayN S.length (hm (idA S j)) j → 0 < cntA S k
  one : ∀ i j, i < S.length → j < S.length → 0 < cntA S i → 0 < cntA S j → idA S i = idA S j → i = j
  same : ∀ x, wt x (occ S) = wt x l
section
variable {hm : Int → Nat} {S l : List Nd}
theorem occ_mem {p : Nd} : p ∈ occ S ↔ ∃ i, i < S.length ∧ 0 < cntA S i ∧ p = (idA S i, cntA S i) := by
  unfold occ
  rw [List.mem_filter, decide_eq_true_eq]
  constructor
  · rintro ⟨h1, h2⟩
    obtain ⟨i, hi, e⟩ := List.getElem_of_mem h1
    have e2 : S.getD i (0, 0) = p := by rw [getD_of hi, e]
    refine ⟨i, hi, ?_, ?_⟩
    · unfold cntA; rw [e2]; exact h2
    · unfold cntA idA; rw [e2]
  · rintro ⟨i, hi, h1, rfl⟩
    refine ⟨?_, h1⟩
    have : (idA S i, cntA S i) = S[i] := by unfold idA cntA; rw [getD_of hi]
    rw [this]
    exact List.getElem_mem hi
theorem occ_cnt : ∀ p ∈ occ S, 0 < p.2 := fun p hp => by
  unfold occ at hp
  exact of_decide_eq_true (List.mem_filter.1 hp).2
theorem occ_cntL : Cnt (occ S) := fun p hp => Int.le_of_lt (occ_cnt p hp)
theorem Tab.at (h : Tab hm S l) {i : Nat} (hi : i < S.length) (hc : 0 < cntA S i) : wt (idA S i) l = cntA S i := by
  have e := wt_occ_set (idA S i) S i (0, 0) hi
  rw [if_pos ⟨rfl, hc⟩, if_neg (fun k => by simp at k), h.same] at e
  have hz : wt (idA S i) (occ (S.set i (0, 0))) = 0 := wt_zero _ _ fun p hp k => by
    obtain ⟨j, hj, h1, rfl⟩ := occ_mem.1 hp
    rw [List.length_set] at hj
    simp only [] at k
    unfold cntA at h1
    unfold idA at k
    rw [getD_set] at h1 k
    by_cases hij : i = j ∧ i < S.length
    · rw [if_pos hij] at h1; simp at h1
    · rw [if_neg hij] at h1 k
      have := h.one j i hj hi h1 hc k
      exact hij ⟨this.symm, hi⟩
  omega
theorem Tab.found (h : Tab hm S l) {x : Int} (hx : wt x l ≠ 0) : ∃ i, i < S.length ∧ idA S i = x ∧ 0 < cntA S i := by
  rw [← h.same] at hx
  obtain ⟨p, hp, e⟩ := mem_wt hx
  obtain ⟨i, hi, hc, rfl⟩ := occ_mem.1 hp
  exact ⟨i, hi, e, hc⟩
/-- Nodes none of which weighs more than it says come once each. -/
theorem apart_of_wt : ∀ T : List Nd, (∀ p ∈ T, 0 < p.2) → (∀ p ∈ T, wt p.1 T = p.2) → T.Pairwise fun x y => x.1 ≠ y.1
  | [], _, _ => List.Pairwise.nil
  | p :: T, hpos, h => by
    have hc : Cnt T := fun q hq => Int.le_of_lt (hpos q (by simp [hq]))
    have h0 := h p (by simp)
    rw [wt, if_pos rfl] at h0
    have hne : ∀ q ∈ T, p.1 ≠ q.1 := fun q hq e => by
      have h1 := wt_ge hq hc
      have h2 := hpos q (by simp [hq])
      rw [← e] at h1
      omega
    refine List.pairwise_cons.2 ⟨hne, apart_of_wt T (fun q hq => hpos q (by simp [hq])) fun q hq => ?_⟩
    have h1 := h q (by simp [hq])
    rw [wt, if_neg (hne q hq)] at h1
    omega
/-- What the table has, in order, is the list. -/
theorem Tab.sorted (h : Tab hm S l) (hl : Canon l) : isort ltS (occ S) = l := by
  have hb := isort_both ltS (occ S)
  refine canon_ext _ _ ⟨?_, fun p hp => occ_cnt p ((isort_mem (lt := ltS) (occ S) p).1 hp)⟩ hl fun id => by rw [hb.1, h.same]
  have hs := isort_srt (lt := ltS) ordS (occ S)
  have hnd : (isort ltS (occ S)).Pairwise fun x y => x.1 ≠ y.1 := by
    refine apart_of_wt _ (fun p hp => occ_cnt p ((isort_mem (lt := ltS) (occ S) p).1 hp)) fun p hp => ?_
    obtain ⟨i, hi, hc, rfl⟩ := occ_mem.1 ((isort_mem (lt := ltS) (occ S) p).1 hp)
    rw [hb.1, h.same]
    exact h.at hi hc
  refine (hs.and hnd).imp fun {x y} hxy => ?_
  have h1 : ltS y x = false := hxy.1
  have h1 := of_decide_eq_false h1
  have h2 := hxy.2
  omega
theorem Tab.len (h : Tab hm S l) (hl : Canon l) : (occ S).length = l.length := by
  rw [← isort_length (lt := ltS) (occ S), h.sorted hl]
/-- A table that is not full has room. -/
theorem Tab.room (h : Tab hm S l) (hl : Canon l) (hn : l.length < S.length) : ∃ e, e < S.length ∧ cntA S e = 0 := by
  refine Classical.byContradiction fun k => ?_
  have hall : occ S = S := by
    unfold occ
    rw [List.filter_eq_self]
    intro p hp
    obtain ⟨i, hi, e⟩ := List.getElem_of_mem hp
    have h1 := h.pos i
    have h2 : cntA S i ≠ 0 := fun z => k ⟨i, hi, z⟩
    have : cntA S i = p.2 := by unfold cntA; rw [getD_of hi, e]
    simp; omega
  have := h.len hl
  rw [hall] at this
  omega
end
/-- Where looking ends. -/
def stopB (S : List Nd) (x : Int) (i : Nat) : Bool := decide (cntA S i = 0 ∨ idA S i = x)
def lookG (S : List Nd) (x : Int) : Nat → Nat → Nat
  | 0, i => i
  | f + 1, i => if stopB S x i = true then i else lookG S x f (nxtN S.length i)
theorem lookG_spec (S : List Nd) (x : Int) (e : Nat) (he : e < S.length) (h0 : cntA S e = 0) : ∀ (f i : Nat), i < S.length → wayN S.length i e < f →
    lookG S x f i < S.length ∧ stopB S x (lookG S x f i) = true ∧ wayN S.length i (lookG S x f i) ≤ wayN S.length i e ∧ ∀ k, k < S.length → wayN S.length i k < wayN S.length i (lookG S x f i) → stopB S x k = false
  | 0, i, _, h => by omega
  | f + 1, i, hi, h => by
    rw [lookG]
    split
    · rename_i hs
      refine ⟨hi, hs, ?_, fun k _ hk => ?_⟩
      · unfold wayN; rw [if_pos (Nat.le_refl _)]; omega
      · unfold wayN at hk; rw [if_pos (Nat.le_refl i)] at hk; omega
    · rename_i hs
      have hie : i ≠ e := fun k => hs (by subst k; exact decide_eq_true (.inl h0))
      have hn : nxtN S.length i < S.length := by unfold nxtN; split <;> omega
      have hw : ∀ k, k < S.length → k ≠ i → wayN S.length i k = wayN S.length (nxtN S.length i) k + 1 := fun k hk hki => by
        unfold wayN nxtN
        split <;> split <;> split <;> omega
      have hwe := hw e he (Ne.symm hie)
      obtain ⟨r1, r2, r3, r4⟩ := lookG_spec S x e he h0 f (nxtN S.length i) hn (by omega)
      generalize lookG S x f (nxtN S.length i) = r at *
      have hri : r ≠ i := fun k => by subst k; exact hs r2
      have hwr := hw r r1 hri
      refine ⟨r1, r2, by omega, fun k hk hlt => ?_⟩
      by_cases hki : k = i
      · subst hki; simpa using hs
      · have := hw k hk hki
        exact r4 k hk (by omega)
section
variable {hm : Int → Nat} {S l : List Nd}
/-- What is found: the node's slot, or the first one that is free. -/
theorem Tab.look (h : Tab hm S l) {x : Int} {r : Nat} (hx : hm x < S.length) (hr : r < S.length) (hs : stopB S x r = true) (hno : ∀ k, k < S.length → wayN S.length (hm x) k < wayN S.length (hm x) r → stopB S x k = false) :
    cntA S r = wt x l ∧ (wt x l ≠ 0 → idA S r = x) := by
  have hs := of_decide_eq_true hs
  by_cases hc : cntA S r = 0
  · have hz : wt x l = 0 := by
      refine Classical.byContradiction fun k => ?_
      obtain ⟨j, hj, e, hcj⟩ := h.found k
      have hp := h.path j hj hcj
      rw [e] at hp
      by_cases hlt : wayN S.length (hm x) r < wayN S.length (hm x) j
      · have := hp r hr hlt; omega
      · by_cases heq : wayN S.length (hm x) j < wayN S.length (hm x) r
        · have := of_decide_eq_false (hno j hj heq)
          exact this (.inr e)
        · have : j = r := by
            unfold wayN at hlt heq
            split at hlt <;> split at hlt <;> split at heq <;> omega
          subst this; omega
    exact ⟨by rw [hc, hz], fun k => absurd hz k⟩
  · have hid : idA S r = x := by
      rcases hs with k | k
      · exact absurd k hc
      · exact k
    have hp := h.pos r
    have := h.at hr (by omega)
    rw [hid] at this
    exact ⟨this.symm, fun _ => hid⟩
/-- A node more, in the first slot that is free for it. -/
theorem Tab.new (h : Tab hm S l) {x c : Int} {r : Nat} (hc : 0 < c) (hr : r < S.length) (h0 : cntA S r = 0) (hz : wt x l = 0) (hno : ∀ k, k < S.length → wayN S.length (hm x) k < wayN S.length (hm x) r → stopB S x k = false) :
    Tab hm (S.set r (x, c)) (put x c l) := by
  have hcs : ∀ k, cntA (S.set r (x, c)) k = if r = k then c else cntA S k := fun k => by
    unfold cntA; rw [getD_set]
    by_cases e : r = k
    · rw [if_pos ⟨e, hr⟩, if_pos e]
    · rw [if_neg (fun q => e q.1), if_neg e]
  have his : ∀ k, idA (S.set r (x, c)) k = if r = k then x else idA S k := fun k => by
    unfold idA; rw [getD_set]
    by_cases e : r = k
    · rw [if_pos ⟨e, hr⟩, if_pos e]
    · rw [if_neg (fun q => e q.1), if_neg e]
  have hnx : ∀ j, j < S.length → 0 < cntA S j → idA S j ≠ x := fun j hj hcj e => by
    have := h.at hj hcj
    rw [e] at this; omega
  refine ⟨fun k => ?_, fun j hj hcj k hk hlt => ?_, fun i j hi hj hci hcj e => ?_, fun y => ?_⟩
  · rw [hcs]; split
    · omega
    · exact h.pos k
  · rw [List.length_set] at hj hk hlt
    rw [hcs] at hcj ⊢
    rw [his] at hlt
    by_cases ek : r = k
    · rw [if_pos ek]; exact hc
    · rw [if_neg ek]
      by_cases ej : r = j
      · rw [if_pos ej] at hlt
        have := of_decide_eq_false (hno k hk (by rw [ej]; exact hlt))
        have hp := h.pos k
        have h3 : cntA S k ≠ 0 := fun z => this (.inl z)
        omega
      · rw [if_neg ej] at hcj hlt
        exact h.path j hj hcj k hk hlt
  · rw [List.length_set] at hi hj
    rw [hcs] at hci hcj
    rw [his, his] at e
    by_cases ei : r = i
    · by_cases ej : r = j
      · omega
      · rw [if_pos ei, if_neg ej] at e
        rw [if_neg ej] at hcj
        exact absurd e.symm (hnx j hj hcj)
    · by_cases ej : r = j
      · rw [if_neg ei, if_pos ej] at e
        rw [if_neg ei] at hci
        exact absurd e (hnx i hi hci)
      · rw [if_neg ei, if_neg ej] at e
        rw [if_neg ei] at hci
        rw [if_neg ej] at hcj
        exact h.one i j hi hj hci hcj e
  · rw [wt_occ_set y S r (x, c) hr, if_neg (fun k => by omega), wt_put, h.same]
    simp only [hc, and_true]; omega
/-- More at a node's slot. -/
theorem Tab.more (h : Tab hm S l) {x c : Int} {r : Nat} (hc : 0 < c) (hr : r < S.length) (h0 : 0 < cntA S r) (hid : idA S r = x) : Tab hm (S.set r (x, cntA S r + c)) (put x c l) := by
  have hcs : ∀ k, 0 < cntA (S.set r (x, cntA S r + c)) k ↔ 0 < cntA S k := fun k => by
    unfold cntA; rw [getD_set]
    by_cases e : r = k
    · subst e
      rw [if_pos ⟨rfl, hr⟩]
      unfold cntA at h0
      constructor
      · intro _; exact h0
      · intro _; show 0 < _ + c; omega
    · rw [if_neg (fun q => e q.1)]
  have his : ∀ k, idA (S.set r (x, cntA S r + c)) k = idA S k := fun k => by
    unfold idA; rw [getD_set]
    by_cases e : r = k
    · subst e
      rw [if_pos ⟨rfl, hr⟩]
      exact hid.symm
    · rw [if_neg (fun q => e q.1)]
  refine ⟨fun k => ?_, fun j hj hcj k hk hlt => ?_, fun i j hi hj hci hcj e => ?_, fun y => ?_⟩
  · by_cases e : 0 < cntA S k
    · exact Int.le_of_lt ((hcs k).2 e)
    · have : r ≠ k := fun q => e (q ▸ h0)
      unfold cntA
      rw [getD_set, if_neg (fun q => this q.1)]
      exact h.pos k
  · rw [List.length_set] at hj hk hlt
    rw [hcs] at hcj ⊢
    rw [his] at hlt
    exact h.path j hj hcj k hk hlt
  · rw [List.length_set] at hi hj
    rw [hcs] at hci hcj
    rw [his, his] at e
    exact h.one i j hi hj hci hcj e
  · rw [wt_occ_set y S r (x, cntA S r + c) hr, hid, wt_put, h.same]
    have h1 : 0 < cntA S r + c := by omega
    simp only [h0, h1, and_true]
    split <;> omega
end
/-- A table with a hole: what lies between it and a slot is found without it. -/
structure Hol (hm : Int → Nat) (S l : List Nd) (h i : Nat) : Prop where
  pos : ∀ k, 0 ≤ cntA S k
  free : cntA S h = 0
  full : ∀ k, k < S.length → k ≠ h → wayN S.length h k < wayN S.length h i → 0 < cntA S k
  path : ∀ j, j < S.length → 0 < cntA S j → ∀ k, k < S.length → k ≠ h → wayN S.length (hm (idA S j)) k < wayN S.length (hm (idA S j)) j → 0 < cntA S k
  near : ∀ j, j < S.length → 0 < cntA S j → wayN S.length h j < wayN S.length h i → ¬ wayN S.length (hm (idA S j)) h < wayN S.length (hm (idA S j)) j
  one : ∀ i j, i < S.length → j < S.length → 0 < cntA S i → 0 < cntA S j → idA S i = idA S j → i = j
  same : ∀ x, wt x (occ S) = wt x l
section
variable {hm : Int → Nat} {S l : List Nd}
/-- A node taken away leaves a hole. -/
theorem Tab.hole (h : Tab hm S l) {r : Nat} (hr : r < S.length) (h0 : 0 < cntA S r) : Hol hm (S.set r (0, 0)) (del (idA S r) l) r (nxtN S.length r) := by
  have hcs : ∀ k, cntA (S.set r (0, 0)) k = if r = k then 0 else cntA S k := fun k => by
    unfold cntA; rw [getD_set]
    by_cases e : r = k
    · rw [if_pos ⟨e, hr⟩, if_pos e]
    · rw [if_neg (fun q => e q.1), if_neg e]
  have his : ∀ k, r ≠ k → idA (S.set r (0, 0)) k = idA S k := fun k e => by unfold idA; rw [getD_set, if_neg (fun q => e q.1)]
  have hocc : ∀ k, 0 < cntA (S.set r (0, 0)) k → r ≠ k ∧ 0 < cntA S k := fun k hk => by
    rw [hcs] at hk
    by_cases e : r = k
    · rw [if_pos e] at hk; omega
    · rw [if_neg e] at hk; exact ⟨e, hk⟩
  refine ⟨fun k => ?_, ?_, fun k hk hkr hlt => ?_, fun j hj hcj k hk hkr hlt => ?_, fun j hj hcj hlt => ?_, fun i j hi hj hci hcj e => ?_, fun x => ?_⟩
  · rw [hcs]; split
    · omega
    · exact h.pos k
  · rw [hcs, if_pos rfl]
  · rw [List.length_set] at hk hlt
    exfalso
    unfold wayN nxtN at hlt
    split at hlt <;> split at hlt <;> split at hlt <;> omega
  · rw [List.length_set] at hj hk hlt
    obtain ⟨e, hc⟩ := hocc j hcj
    rw [his j e] at hlt
    rw [hcs, if_neg (Ne.symm hkr)]
    exact h.path j hj hc k hk hlt
  · rw [List.length_set] at hj hlt
    obtain ⟨e, _⟩ := hocc j hcj
    exfalso
    unfold wayN nxtN at hlt
    split at hlt <;> split at hlt <;> split at hlt <;> omega
  · rw [List.length_set] at hi hj
    obtain ⟨e1, c1⟩ := hocc i hci
    obtain ⟨e2, c2⟩ := hocc j hcj
    rw [his i e1, his j e2] at e
    exact h.one i j hi hj c1 c2 e
  · rw [wt_occ_set x S r (0, 0) hr, wt_del, h.same, if_neg (show ¬ (((0 : Int), (0 : Int)).1 = x ∧ (0 : Int) < ((0 : Int), (0 : Int)).2) by simp)]
    have hat := h.at hr h0
    by_cases e : idA S r = x
    · rw [if_pos ⟨e, h0⟩, if_pos e.symm, ← e, hat]; omega
    · rw [if_neg (fun q => e q.1), if_neg (Ne.symm e)]; omega
/-- A slot whose node goes to the hole. -/
theorem Hol.move {h i : Nat} (H : Hol hm S l h i) (hh : h < S.length) (hi : i < S.length) (hne : i ≠ h) (hc : 0 < cntA S i) (hm0 : ∀ x, hm x < S.length) (hw : wayN S.length (hm (idA S i)) h ≤ wayN S.length (hm (idA S i)) i) :
    Hol hm ((S.set h (S.getD i (0, 0))).set i (0, 0)) l i (nxtN S.length i) := by
  have hcs : ∀ k, cntA ((S.set h (S.getD i (0, 0))).set i (0, 0)) k = if i = k then 0 else if h = k then cntA S i else cntA S k := fun k => by
    unfold cntA; rw [getD_set, getD_set, List.length_set]
    by_cases e : i = k
    · rw [if_pos ⟨e, hi⟩, if_pos e]
    · rw [if_neg (fun q => e q.1), if_neg e]
      by_cases e2 : h = k
      · rw [if_pos ⟨e2, hh⟩, if_pos e2]
      · rw [if_neg (fun q => e2 q.1), if_neg e2]
  have his : ∀ k, i ≠ k → idA ((S.set h (S.getD i (0, 0))).set i (0, 0)) k = if h = k then idA S i else idA S k := fun k e => by
    unfold idA; rw [getD_set, getD_set, List.length_set, if_neg (fun q => e q.1)]
    by_cases e2 : h = k
    · rw [if_pos ⟨e2, hh⟩, if_pos e2]
    · rw [if_neg (fun q => e2 q.1), if_neg e2]
  have hlen : ((S.set h (S.getD i (0, 0))).set i (0, 0)).length = S.length := by rw [List.length_set, List.length_set]
  have hmi := hm0 (idA S i)
  refine ⟨fun k => ?_, ?_, fun k hk hkr hlt => ?_, fun j hj hcj k hk hkr hlt => ?_, fun j hj hcj hlt => ?_, fun a b ha hb hca hcb e => ?_, fun x => ?_⟩
  · rw [hcs]; split
    · omega
    · split
      · omega
      · exact H.pos k
  · rw [hcs, if_pos rfl]
  · rw [hlen] at hk hlt
    exfalso
    unfold wayN nxtN at hlt
    split at hlt <;> split at hlt <;> split at hlt <;> omega
  · rw [hlen] at hj hk hlt
    rw [hcs] at hcj
    by_cases ej : i = j
    · rw [if_pos ej] at hcj; omega
    rw [if_neg ej] at hcj
    rw [his j ej] at hlt
    rw [hcs, if_neg (Ne.symm hkr)]
    by_cases ek : h = k
    · rw [if_pos ek]; exact hc
    · rw [if_neg ek]
      by_cases ejh : h = j
      · rw [if_pos ejh] at hlt
        subst ejh
        refine H.path i hi hc k hk (Ne.symm ek) ?_
        omega
      · rw [if_neg ejh] at hlt hcj
        exact H.path j hj hcj k hk (Ne.symm ek) hlt
  · rw [hlen] at hj hlt
    exfalso
    rw [hcs] at hcj
    by_cases ej : i = j
    · rw [if_pos ej] at hcj; omega
    unfold wayN nxtN at hlt
    split at hlt <;> split at hlt <;> split at hlt <;> omega
  · rw [hlen] at ha hb
    rw [hcs] at hca hcb
    by_cases ea : i = a
    · rw [if_pos ea] at hca; omega
    by_cases eb : i = b
    · rw [if_pos eb] at hcb; omega
    rw [if_neg ea] at hca
    rw [if_neg eb] at hcb
    rw [his a ea, his b eb] at e
    by_cases ea2 : h = a
    · by_cases eb2 : h = b
      · omega
      · rw [if_pos ea2, if_neg eb2] at e
        rw [if_neg eb2] at hcb
        exact absurd (H.one i b hi hb hc hcb e) eb
    · by_cases eb2 : h = b
      · rw [if_neg ea2, if_pos eb2] at e
        rw [if_neg ea2] at hca
        exact absurd (H.one a i ha hi hca hc e) (Ne.symm ea)
      · rw [if_neg ea2, if_neg eb2] at e
        rw [if_neg ea2] at hca
        rw [if_neg eb2] at hcb
        exact H.one a b ha hb hca hcb e
  · rw [wt_occ_set x _ i (0, 0) (by rw [List.length_set]; exact hi), wt_occ_set x S h _ hh, H.same, if_neg (show ¬ (((0 : Int), (0 : Int)).1 = x ∧ (0 : Int) < ((0 : Int), (0 : Int)).2) by simp)]
    have e1 : idA (S.set h (S.getD i (0, 0))) i = idA S i := by unfold idA; rw [getD_set, if_neg (fun q => hne q.1.symm)]
    have e2 : cntA (S.set h (S.getD i (0, 0))) i = cntA S i := by unfold cntA; rw [getD_set, if_neg (fun q => hne q.1.symm)]
    rw [e1, e2, if_neg (show ¬ (idA S h = x ∧ 0 < cntA S h) from fun q => by have := H.free; omega)]
    show _ - 0 + (if idA S i = x ∧ 0 < cntA S i then cntA S i else 0) - _ + 0 = _
    omega
/-- A slot whose node stays. -/
theorem Hol.stay {h i : Nat} (H : Hol hm S l h i) (hh : h < S.length) (hi : i < S.length) (hne : i ≠ h) (hc : 0 < cntA S i) (hnn : nxtN S.length i ≠ h) (hm0 : ∀ x, hm x < S.length) (hw : ¬ wayN S.length (hm (idA S i)) h ≤ wayN S.length (hm (idA S i)) i) :
    Hol hm S l h (nxtN S.length i) := by
  have hstep : ∀ k, k < S.length → wayN S.length h k < wayN S.length h (nxtN S.length i) → wayN S.length h k < wayN S.length h i ∨ k = i := fun k hk hlt => by
    unfold wayN nxtN at hlt
    unfold wayN
    unfold nxtN at hnn
    split at hlt <;> split at hlt <;> split at hlt <;> split <;> split <;> omega
  refine ⟨H.pos, H.free, fun k hk hkr hlt => ?_, H.path, fun j hj hcj hlt => ?_, H.one, H.same⟩
  · rcases hstep k hk hlt with h1 | h1
    · exact H.full k hk hkr h1
    · rw [h1]; exact hc
  · rcases hstep j hj hlt with h1 | h1
    · exact H.near j hj hcj h1
    · subst h1; omega
/-- Behind the hole's run: all is found again. -/
theorem Hol.shut {h i : Nat} (H : Hol hm S l h i) (hh : h < S.length) (hi : i < S.length) (hne : i ≠ h) (hc : cntA S i = 0) (hm0 : ∀ x, hm x < S.length) : Tab hm S l := by
  refine ⟨H.pos, fun j hj hcj k hk hlt => ?_, H.one, H.same⟩
  by_cases hkh : k = h
  · exfalso
    subst hkh
    have hnear : ¬ wayN S.length k j < wayN S.length k i := fun q => H.near j hj hcj q hlt
    have hij : i ≠ j := fun e => by subst e; omega
    have hmj := hm0 (idA S j)
    have := H.path j hj hcj i hi hne (by
      unfold wayN at hlt hnear ⊢
      split at hlt <;> split at hlt <;> split at hnear <;> split at hnear <;> split <;> first | omega | (split <;> omega))
    omega
  · exact H.path j hj hcj k hk hkh hlt
end
/-- An empty table. -/
theorem Tab.nil (hm : Int → Nat) (n : Nat) : Tab hm (List.replicate n (0, 0)) [] := by
  have hc : ∀ k, cntA (List.replicate n ((0 : Int), (0 : Int))) k = 0 := fun k => by
    unfold cntA
    rw [List.getD_eq_getElem?_getD, List.getElem?_replicate]
    split <;> rfl
  refine ⟨fun k => by rw [hc]; omega, fun j _ h => by rw [hc] at h; omega, fun i j _ _ h => by rw [hc] at h; omega, fun x => ?_⟩
  have : occ (List.replicate n ((0 : Int), (0 : Int))) = [] := by
    unfold occ
    rw [List.filter_eq_nil_iff]
    intro p hp
    rw [List.eq_of_mem_replicate hp]
    simp
  rw [this]
end StoM
end Go.Proofs.YteebghoijaaakaaGreat

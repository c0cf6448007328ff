/- Part 6 of the proof: texts joined by this repo's tools/merge.py (PrbM Own Bits). By the prover of this repo. -/
import Derived.Test.YtfjgpjgphdiliaaGreatM5
import Derived.Test.YtfjgpjgphdiliaaGreatM1
import Derived.Maps.AppendAt
import Derived.Laws.OwnMore
import Derived.Laws.IdiomStrings
set_option linter.unusedVariables false
set_option linter.unusedSimpArgs false
/- Plain facts on a table that is looked through: nodes in slots, each found from its home on; one put, one taken away with those behind it put back. No program in sight. By the prover of this repo. -/
namespace Go.Proofs.YtfjgpjgphdiliaaGreat
namespace StoM
open TwigM RollM Go.RowKit

/-- How many steps it is from a slot on to another one, around. -/
def wayN (n a b : Nat) : Nat := if a ≤ b then b - a else b + n - a
def nxtN (n i : Nat) : Nat := if i + 1 = n then 0 else i + 1
def cntA (S : List Nd) (i : Nat) : Int := (S.getD i (0, 0)).2
def idA (S : List Nd) (i : Nat) : Int := (S.getD i (0, 0)).1
/-- What slots have. -/
def occ (S : List Nd) : List Nd := S.filter fun p => decide (0 < p.2)
theorem getD_of {S : List Nd} {i : Nat} (h : i < S.length) : S.getD i (0, 0) = S[i] := by rw [List.getD_eq_getElem?_getD, List.getElem?_eq_getElem h]; rfl
theorem getD_set (S : List Nd) (i j : Nat) (v : Nd) : (S.set i v).getD j (0, 0) = if i = j ∧ i < S.length then v else S.getD j (0, 0) := by
  rw [List.getD_eq_getElem?_getD, List.getElem?_set, List.getD_eq_getElem?_getD]
  by_cases h : i = j
  · subst h
    by_cases h2 : i < S.length
    · rw [if_pos rfl, if_pos h2, if_pos ⟨rfl, h2⟩]; try rfl
    · rw [if_pos rfl, if_neg h2, if_neg (fun k => h2 k.2), List.getElem?_eq_none (by omega)]; try rfl
  · rw [if_neg h, if_neg (fun k => h k.1)]
theorem wt_occ_cons (x : Int) (p : Nd) (S : List Nd) : wt x (occ (p :: S)) = (if p.1 = x ∧ 0 < p.2 then p.2 else 0) + wt x (occ S) := by
  unfold occ
  by_cases hp : 0 < p.2
  · rw [List.filter_cons_of_pos (by simpa using hp), wt]
    simp only [hp, and_true]
  · rw [List.filter_cons_of_neg (by simpa using hp), if_neg (fun k => hp k.2), Int.zero_add]
theorem wt_occ_set (x : Int) : ∀ (S : List Nd) (i : Nat) (v : Nd), i < S.length →
    wt x (occ (S.set i v)) = wt x (occ S) - (if idA S i = x ∧ 0 < cntA S i then cntA S i else 0) + (if v.1 = x ∧ 0 < v.2 then v.2 else 0)
  | [], i, v, h => by simp at h
  | p :: S, 0, v, _ => by
    have e1 : idA (p :: S) 0 = p.1 := rfl
    have e2 : cntA (p :: S) 0 = p.2 := rfl
    rw [e1, e2, List.set_cons_zero, wt_occ_cons, wt_occ_cons]; omega
  | p :: S, i + 1, v, h => by
    have ih := wt_occ_set x S i v (by simpa using h)
    have e1 : idA (p :: S) (i + 1) = idA S i := rfl
    have e2 : cntA (p :: S) (i + 1) = cntA S i := rfl
    rw [e1, e2, List.set_cons_succ, wt_occ_cons, wt_occ_cons, ih]; omega
theorem wt_ge {p : Nd} : ∀ {Q : List Nd}, p ∈ Q → Cnt Q → p.2 ≤ wt p.1 Q
  | [], h, _ => by cases h
  | q :: Q, h, hc => by
    rw [wt]
    have h0 := wt_nonneg p.1 Q fun x hx => hc x (by simp [hx])
    have h1 := hc q (by simp)
    rcases List.mem_cons.1 h with rfl | hq
    · rw [if_pos rfl]; omega
    · have := wt_ge hq fun x hx => hc x (by simp [hx])
      split <;> omega

/-- A table that has some nodes, each of which is found from its home on. -/
structure Tab (hm : Int → Nat) (S : List Nd) (l : List Nd) : Prop where
  pos : ∀ i, 0 ≤ cntA S i
  path : ∀ j, j < S.length → 0 < cntA S j → ∀ k, k < S.length → wayN S.length (hm (idA S j)) k < wayN S.length (hm (idA S j)) j → 0 < cntA S k
  one : ∀ i j, i < S.length → j < S.length → 0 < cntA S i → 0 < cntA S j → idA S i = idA S j → i = j
  same : ∀ x, wt x (occ S) = wt x l
section
variable {hm : Int → Nat} {S l : List Nd}
theorem occ_mem {p : Nd} : p ∈ occ S ↔ ∃ i, i < S.length ∧ 0 < cntA S i ∧ p = (idA S i, cntA S i) := by
  unfold occ
  rw [List.mem_filter, decide_eq_true_eq]
  constructor
  · rintro ⟨h1, h2⟩
    obtain ⟨i, hi, e⟩ := List.getElem_of_mem h1
    have e2 : S.getD i (0, 0) = p := by rw [getD_of hi, e]
    refine ⟨i, hi, ?_, ?_⟩
    · unfold cntA; rw [e2]; exact h2
    · unfold cntA idA; rw [e2]
  · rintro ⟨i, hi, h1, rfl⟩
    refine ⟨?_, h1⟩
    have : (idA S i, cntA S i) = S[i] := by unfold idA cntA; rw [getD_of hi]
    rw [this]
    exact List.getElem_mem hi
theorem occ_cnt : ∀ p ∈ occ S, 0 < p.2 := fun p hp => by
  unfold occ at hp
  exact of_decide_eq_true (List.mem_filter.1 hp).2
theorem occ_cntL : Cnt (occ S) := fun p hp => Int.le_of_lt (occ_cnt p hp)
theorem Tab.at (h : Tab hm S l) {i : Nat} (hi : i < S.length) (hc : 0 < cntA S i) : wt (idA S i) l = cntA S i := by
  have e := wt_occ_set (idA S i) S i (0, 0) hi
  rw [if_pos ⟨rfl, hc⟩, if_neg (fun k => by simp at k), h.same] at e
  have hz : wt (idA S i) (occ (S.set i (0, 0))) = 0 := wt_zero _ _ fun p hp k => by
    obtain ⟨j, hj, h1, rfl⟩ := occ_mem.1 hp
    rw [List.length_set] at hj
    simp only [] at k
    unfold cntA at h1
    unfold idA at k
    rw [getD_set] at h1 k
    by_cases hij : i = j ∧ i < S.length
    · rw [if_pos hij] at h1; simp at h1
    · rw [if_neg hij] at h1 k
      have := h.one j i hj hi h1 hc k
      exact hij ⟨this.symm, hi⟩
  omega
theorem Tab.found (h : Tab hm S l) {x : Int} (hx : wt x l ≠ 0) : ∃ i, i < S.length ∧ idA S i = x ∧ 0 < cntA S i := by
  rw [← h.same] at hx
  obtain ⟨p, hp, e⟩ := mem_wt hx
  obtain ⟨i, hi, hc, rfl⟩ := occ_mem.1 hp
  exact ⟨i, hi, e, hc⟩
/-- Nodes none of which weighs more than it says come once each. -/
theorem apart_of_wt : ∀ T : List Nd, (∀ p ∈ T, 0 < p.2) → (∀ p ∈ T, wt p.1 T = p.2) → T.Pairwise fun x y => x.1 ≠ y.1
  | [], _, _ => List.Pairwise.nil
  | p :: T, hpos, h => by
    have hc : Cnt T := fun q hq => Int.le_of_lt (hpos q (by simp [hq]))
    have h0 := h p (by simp)
    rw [wt, if_pos rfl] at h0
    have hne : ∀ q ∈ T, p.1 ≠ q.1 := fun q hq e => by
      have h1 := wt_ge hq hc
      have h2 := hpos q (by simp [hq])
      rw [← e] at h1
      omega
    refine List.pairwise_cons.2 ⟨hne, apart_of_wt T (fun q hq => hpos q (by simp [hq])) fun q hq => ?_⟩
    have h1 := h q (by simp [hq])
    rw [wt, if_neg (hne q hq)] at h1
    omega
/-- What the table has, in order, is the list. -/
theorem Tab.sorted (h : Tab hm S l) (hl : Canon l) : isort ltS (occ S) = l := by
  have hb := isort_both ltS (occ S)
  refine canon_ext _ _ ⟨?_, fun p hp => occ_cnt p ((isort_mem (lt := ltS) (occ S) p).1 hp)⟩ hl fun id => by rw [hb.1, h.same]
  have hs := isort_srt (lt := ltS) ordS (occ S)
  have hnd : (isort ltS (occ S)).Pairwise fun x y => x.1 ≠ y.1 := by
    refine apart_of_wt _ (fun p hp => occ_cnt p ((isort_mem (lt := ltS) (occ S) p).1 hp)) fun p hp => ?_
    obtain ⟨i, hi, hc, rfl⟩ := occ_mem.1 ((isort_mem (lt := ltS) (occ S) p).1 hp)
    rw [hb.1, h.same]
    exact h.at hi hc
  refine (hs.and hnd).imp fun {x y} hxy => ?_
  have h1 : ltS y x = false := hxy.1
  have h1 := of_decide_eq_false h1
  have h2 := hxy.2
  omega
theorem Tab.len (h : Tab hm S l) (hl : Canon l) : (occ S).length = l.length := by
  rw [← isort_length (lt := ltS) (occ S), h.sorted hl]
/-- A table that is not full has room. -/
theorem Tab.room (h : Tab hm S l) (hl : Canon l) (hn : l.length < S.length) : ∃ e, e < S.length ∧ cntA S e = 0 := by
  refine Classical.byContradiction fun k => ?_
  have hall : occ S = S := by
    unfold occ
    rw [List.filter_eq_self]
    intro p hp
    obtain ⟨i, hi, e⟩ := List.getElem_of_mem hp
    have h1 := h.pos i
    have h2 : cntA S i ≠ 0 := fun z => k ⟨i, hi, z⟩
    have : cntA S i = p.2 := by unfold cntA; rw [getD_of hi, e]
    simp; omega
  have := h.len hl
  rw [hall] at this
  omega
end
/-- Where looking ends. -/
def stopB (S : List Nd) (x : Int) (i : Nat) : Bool := decide (cntA S i = 0 ∨ idA S i = x)
def lookG (S : List Nd) (x : Int) : Nat → Nat → Nat
  | 0, i => i
  | f + 1, i => if stopB S x i = true then i else lookG S x f (nxtN S.length i)
theorem lookG_spec (S : List Nd) (x : Int) (e : Nat) (he : e < S.length) (h0 : cntA S e = 0) : ∀ (f i : Nat), i < S.length → wayN S.length i e < f →
    lookG S x f i < S.length ∧ stopB S x (lookG S x f i) = true ∧ wayN S.length i (lookG S x f i) ≤ wayN S.length i e ∧ ∀ k, k < S.length → wayN S.length i k < wayN S.length i (lookG S x f i) → stopB S x k = false
  | 0, i, _, h => by omega
  | f + 1, i, hi, h => by
    rw [lookG]
    split
    · rename_i hs
      refine ⟨hi, hs, ?_, fun k _ hk => ?_⟩
      · unfold wayN; rw [if_pos (Nat.le_refl _)]; omega
      · unfold wayN at hk; rw [if_pos (Nat.le_refl i)] at hk; omega
    · rename_i hs
      have hie : i ≠ e := fun k => hs (by subst k; exact decide_eq_true (.inl h0))
      have hn : nxtN S.length i < S.length := by unfold nxtN; split <;> omega
      have hw : ∀ k, k < S.length → k ≠ i → wayN S.length i k = wayN S.length (nxtN S.length i) k + 1 := fun k hk hki => by
        unfold wayN nxtN
        split <;> split <;> split <;> omega
      have hwe := hw e he (Ne.symm hie)
      obtain ⟨r1, r2, r3, r4⟩ := lookG_spec S x e he h0 f (nxtN S.length i) hn (by omega)
      generalize lookG S x f (nxtN S.length i) = r at *
      have hri : r ≠ i := fun k => by subst k; exact hs r2
      have hwr := hw r r1 hri
      refine ⟨r1, r2, by omega, fun k hk hlt => ?_⟩
      by_cases hki : k = i
      · subst hki; simpa using hs
      · have := hw k hk hki
        exact r4 k hk (by omega)
section
variable {hm : Int → Nat} {S l : List Nd}
/-- What is found: the node's slot, or the first one that is free. -/
theorem Tab.look (h : Tab hm S l) {x : Int} {r : Nat} (hx : hm x < S.length) (hr : r < S.length) (hs : stopB S x r = true) (hno : ∀ k, k < S.length → wayN S.length (hm x) k < wayN S.length (hm x) r → stopB S x k = false) :
    cntA S r = wt x l ∧ (wt x l ≠ 0 → idA S r = x) := by
  have hs := of_decide_eq_true hs
  by_cases hc : cntA S r = 0
  · have hz : wt x l = 0 := by
      refine Classical.byContradiction fun k => ?_
      obtain ⟨j, hj, e, hcj⟩ := h.found k
      have hp := h.path j hj hcj
      rw [e] at hp
      by_cases hlt : wayN S.length (hm x) r < wayN S.length (hm x) j
      · have := hp r hr hlt; omega
      · by_cases heq : wayN S.length (hm x) j < wayN S.length (hm x) r
        · have := of_decide_eq_false (hno j hj heq)
          exact this (.inr e)
        · have : j = r := by
            unfold wayN at hlt heq
            split at hlt <;> split at hlt <;> split at heq <;> omega
          subst this; omega
    exact ⟨by rw [hc, hz], fun k => absurd hz k⟩
  · have hid : idA S r = x := by
      rcases hs with k | k
      · exact absurd k hc
      · exact k
    have hp := h.pos r
    have := h.at hr (by omega)
    rw [hid] at this
    exact ⟨this.symm, fun _ => hid⟩
/-- A node more, in the first slot that is free for it. -/
theorem Tab.new (h : Tab hm S l) {x c : Int} {r : Nat} (hc : 0 < c) (hr : r < S.length) (h0 : cntA S r = 0) (hz : wt x l = 0) (hno : ∀ k, k < S.length → wayN S.length (hm x) k < wayN S.length (hm x) r → stopB S x k = false) :
    Tab hm (S.set r (x, c)) (put x c l) := by
  have hcs : ∀ k, cntA (S.set r (x, c)) k = if r = k then c else cntA S k := fun k => by
    unfold cntA; rw [getD_set]
    by_cases e : r = k
    · rw [if_pos ⟨e, hr⟩, if_pos e]
    · rw [if_neg (fun q => e q.1), if_neg e]
  have his : ∀ k, idA (S.set r (x, c)) k = if r = k then x else idA S k := fun k => by
    unfold idA; rw [getD_set]
    by_cases e : r = k
    · rw [if_pos ⟨e, hr⟩, if_pos e]
    · rw [if_neg (fun q => e q.1), if_neg e]
  have hnx : ∀ j, j < S.length → 0 < cntA S j → idA S j ≠ x := fun j hj hcj e => by
    have := h.at hj hcj
    rw [e] at this; omega
  refine ⟨fun k => ?_, fun j hj hcj k hk hlt => ?_, fun i j hi hj hci hcj e => ?_, fun y => ?_⟩
  · rw [hcs]; split
    · omega
    · exact h.pos k
  · rw [List.length_set] at hj hk hlt
    rw [hcs] at hcj ⊢
    rw [his] at hlt
    by_cases ek : r = k
    · rw [if_pos ek]; exact hc
    · rw [if_neg ek]
      by_cases ej : r = j
      · rw [if_pos ej] at hlt
        have := of_decide_eq_false (hno k hk (by rw [ej]; exact hlt))
        have hp := h.pos k
        have h3 : cntA S k ≠ 0 := fun z => this (.inl z)
        omega
      · rw [if_neg ej] at hcj hlt
        exact h.path j hj hcj k hk hlt
  · rw [List.length_set] at hi hj
    rw [hcs] at hci hcj
    rw [his, his] at e
    by_cases ei : r = i
    · by_cases ej : r = j
      · omega
      · rw [if_pos ei, if_neg ej] at e
        rw [if_neg ej] at hcj
        exact absurd e.symm (hnx j hj hcj)
    · by_cases ej : r = j
      · rw [if_neg ei, if_pos ej] at e
        rw [if_neg ei] at hci
        exact absurd e (hnx i hi hci)
      · rw [if_neg ei, if_neg ej] at e
        rw [if_neg ei] at hci
        rw [if_neg ej] at hcj
        exact h.one i j hi hj hci hcj e
  · rw [wt_occ_set y S r (x, c) hr, if_neg (fun k => by omega), wt_put, h.same]
    simp only [hc, and_true]; omega
/-- More at a node's slot. -/
theorem Tab.more (h : Tab hm S l) {x c : Int} {r : Nat} (hc : 0 < c) (hr : r < S.length) (h0 : 0 < cntA S r) (hid : idA S r = x) : Tab hm (S.set r (x, cntA S r + c)) (put x c l) := by
  have hcs : ∀ k, 0 < cntA (S.set r (x, cntA S r + c)) k ↔ 0 < cntA S k := fun k => by
    unfold cntA; rw [getD_set]
    by_cases e : r = k
    · subst e
      rw [if_pos ⟨rfl, hr⟩]
      unfold cntA at h0
      constructor
      · intro _; exact h0
      · intro _; show 0 < _ + c; omega
    · rw [if_neg (fun q => e q.1)]
  have his : ∀ k, idA (S.set r (x, cntA S r + c)) k = idA S k := fun k => by
    unfold idA; rw [getD_set]
    by_cases e : r = k
    · subst e
      rw [if_pos ⟨rfl, hr⟩]
      exact hid.symm
    · rw [if_neg (fun q => e q.1)]
  refine ⟨fun k => ?_, fun j hj hcj k hk hlt => ?_, fun i j hi hj hci hcj e => ?_, fun y => ?_⟩
  · by_cases e : 0 < cntA S k
    · exact Int.le_of_lt ((hcs k).2 e)
    · have : r ≠ k := fun q => e (q ▸ h0)
      unfold cntA
      rw [getD_set, if_neg (fun q => this q.1)]
      exact h.pos k
  · rw [List.length_set] at hj hk hlt
    rw [hcs] at hcj ⊢
    rw [his] at hlt
    exact h.path j hj hcj k hk hlt
  · rw [List.length_set] at hi hj
    rw [hcs] at hci hcj
    rw [his, his] at e
    exact h.one i j hi hj hci hcj e
  · rw [wt_occ_set y S r (x, cntA S r + c) hr, hid, wt_put, h.same]
    have h1 : 0 < cntA S r + c := by omega
    simp only [h0, h1, and_true]
    split <;> omega
end
/-- A table with a hole: what lies between it and a slot is found without it. -/
structure Hol (hm : Int → Nat) (S l : List Nd) (h i : Nat) : Prop where
  pos : ∀ k, 0 ≤ cntA S k
  free : cntA S h = 0
  full : ∀ k, k < S.length → k ≠ h → wayN S.length h k < wayN S.length h i → 0 < cntA S k
  path : ∀ j, j < S.length → 0 < cntA S j → ∀ k, k < S.length → k ≠ h → wayN S.length (hm (idA S j)) k < wayN S.length (hm (idA S j)) j → 0 < cntA S k
  near : ∀ j, j < S.length → 0 < cntA S j → wayN S.length h j < wayN S.length h i → ¬ wayN S.length (hm (idA S j)) h < wayN S.length (hm (idA S j)) j
  one : ∀ i j, i < S.length → j < S.length → 0 < cntA S i → 0 < cntA S j → idA S i = idA S j → i = j
  same : ∀ x, wt x (occ S) = wt x l
section
variable {hm : Int → Nat} {S l : List Nd}
/-- A node taken away leaves a hole. -/
theorem Tab.hole (h : Tab hm S l) {r : Nat} (hr : r < S.length) (h0 : 0 < cntA S r) : Hol hm (S.set r (0, 0)) (del (idA S r) l) r (nxtN S.length r) := by
  have hcs : ∀ k, cntA (S.set r (0, 0)) k = if r = k then 0 else cntA S k := fun k => by
    unfold cntA; rw [getD_set]
    by_cases e : r = k
    · rw [if_pos ⟨e, hr⟩, if_pos e]
    · rw [if_neg (fun q => e q.1), if_neg e]
  have his : ∀ k, r ≠ k → idA (S.set r (0, 0)) k = idA S k := fun k e => by unfold idA; rw [getD_set, if_neg (fun q => e q.1)]
  have hocc : ∀ k, 0 < cntA (S.set r (0, 0)) k → r ≠ k ∧ 0 < cntA S k := fun k hk => by
    rw [hcs] at hk
    by_cases e : r = k
    · rw [if_pos e] at hk; omega
    · rw [if_neg e] at hk; exact ⟨e, hk⟩
  refine ⟨fun k => ?_, ?_, fun k hk hkr hlt => ?_, fun j hj hcj k hk hkr hlt => ?_, fun j hj hcj hlt => ?_, fun i j hi hj hci hcj e => ?_, fun x => ?_⟩
  · rw [hcs]; split
    · omega
    · exact h.pos k
  · rw [hcs, if_pos rfl]
  · rw [List.length_set] at hk hlt
    exfalso
    unfold wayN nxtN at hlt
    split at hlt <;> split at hlt <;> split at hlt <;> omega
  · rw [List.length_set] at hj hk hlt
    obtain ⟨e, hc⟩ := hocc j hcj
    rw [his j e] at hlt
    rw [hcs, if_neg (Ne.symm hkr)]
    exact h.path j hj hc k hk hlt
  · rw [List.length_set] at hj hlt
    obtain ⟨e, _⟩ := hocc j hcj
    exfalso
    unfold wayN nxtN at hlt
    split at hlt <;> split at hlt <;> split at hlt <;> omega
  · rw [List.length_set] at hi hj
    obtain ⟨e1, c1⟩ := hocc i hci
    obtain ⟨e2, c2⟩ := hocc j hcj
    rw [his i e1, his j e2] at e
    exact h.one i j hi hj c1 c2 e
  · rw [wt_occ_set x S r (0, 0) hr, wt_del, h.same, if_neg (show ¬ (((0 : Int), (0 : Int)).1 = x ∧ (0 : Int) < ((0 : Int), (0 : Int)).2) by simp)]
    have hat := h.at hr h0
    by_cases e : idA S r = x
    · rw [if_pos ⟨e, h0⟩, if_pos e.symm, ← e, hat]; omega
    · rw [if_neg (fun q => e q.1), if_neg (Ne.symm e)]; omega
/-- A slot whose node goes to the hole. -/
theorem Hol.move {h i : Nat} (H : Hol hm S l h i) (hh : h < S.length) (hi : i < S.length) (hne : i ≠ h) (hc : 0 < cntA S i) (hm0 : ∀ x, hm x < S.length) (hw : wayN S.length (hm (idA S i)) h ≤ wayN S.length (hm (idA S i)) i) :
    Hol hm ((S.set h (S.getD i (0, 0))).set i (0, 0)) l i (nxtN S.length i) := by
  have hcs : ∀ k, cntA ((S.set h (S.getD i (0, 0))).set i (0, 0)) k = if i = k then 0 else if h = k then cntA S i else cntA S k := fun k => by
    unfold cntA; rw [getD_set, getD_set, List.length_set]
    by_cases e : i = k
    · rw [if_pos ⟨e, hi⟩, if_pos e]
    · rw [if_neg (fun q => e q.1), if_neg e]
      by_cases e2 : h = k
      · rw [if_pos ⟨e2, hh⟩, if_pos e2]
      · rw [if_neg (fun q => e2 q.1), if_neg e2]
  have his : ∀ k, i ≠ k → idA ((S.set h (S.getD i (0, 0))).set i (0, 0)) k = if h = k then idA S i else idA S k := fun k e => by
    unfold idA; rw [getD_set, getD_set, List.length_set, if_neg (fun q => e q.1)]
    by_cases e2 : h = k
    · rw [if_pos ⟨e2, hh⟩, if_pos e2]
    · rw [if_neg (fun q => e2 q.1), if_neg e2]
  have hlen : ((S.set h (S.getD i (0, 0))).set i (0, 0)).length = S.length := by rw [List.length_set, List.length_set]
  have hmi := hm0 (idA S i)
  refine ⟨fun k => ?_, ?_, fun k hk hkr hlt => ?_, fun j hj hcj k hk hkr hlt => ?_, fun j hj hcj hlt => ?_, fun a b ha hb hca hcb e => ?_, fun x => ?_⟩
  · rw [hcs]; split
    · omega
    · split
      · omega
      · exact H.pos k
  · rw [hcs, if_pos rfl]
  · rw [hlen] at hk hlt
    exfalso
    unfold wayN nxtN at hlt
    split at hlt <;> split at hlt <;> split at hlt <;> omega
  · rw [hlen] at hj hk hlt
    rw [hcs] at hcj
    by_cases ej : i = j
    · rw [if_pos ej] at hcj; omega
    rw [if_neg ej] at hcj
    rw [his j ej] at hlt
    rw [hcs, if_neg (Ne.symm hkr)]
    by_cases ek : h = k
    · rw [if_pos ek]; exact hc
    · rw [if_neg ek]
      by_cases ejh : h = j
      · rw [if_pos ejh] at hlt
        subst ejh
        refine H.path i hi hc k hk (Ne.symm ek) ?_
        omega
      · rw [if_neg ejh] at hlt hcj
        exact H.path j hj hcj k hk (Ne.symm ek) hlt
  · rw [hlen] at hj hlt
    exfalso
    rw [hcs] at hcj
    by_cases ej : i = j
    · rw [if_pos ej] at hcj; omega
    unfold wayN nxtN at hlt
    split at hlt <;> split at hlt <;> split at hlt <;> omega
  · rw [hlen] at ha hb
    rw [hcs] at hca hcb
    by_cases ea : i = a
    · rw [if_pos ea] at hca; omega
    by_cases eb : i = b
    · rw [if_pos eb] at hcb; omega
    rw [if_neg ea] at hca
    rw [if_neg eb] at hcb
    rw [his a ea, his b eb] at e
    by_cases ea2 : h = a
    · by_cases eb2 : h = b
      · omega
      · rw [if_pos ea2, if_neg eb2] at e
        rw [if_neg eb2] at hcb
        exact absurd (H.one i b hi hb hc hcb e) eb
    · by_cases eb2 : h = b
      · rw [if_neg ea2, if_pos eb2] at e
        rw [if_neg ea2] at hca
        exact absurd (H.one a i ha hi hca hc e) (Ne.symm ea)
      · rw [if_neg ea2, if_neg eb2] at e
        rw [if_neg ea2] at hca
        rw [if_neg eb2] at hcb
        exact H.one a b ha hb hca hcb e
  · rw [wt_occ_set x _ i (0, 0) (by rw [List.length_set]; exact hi), wt_occ_set x S h _ hh, H.same, if_neg (show ¬ (((0 : Int), (0 : Int)).1 = x ∧ (0 : Int) < ((0 : Int), (0 : Int)).2) by simp)]
    have e1 : idA (S.set h (S.getD i (0, 0))) i = idA S i := by unfold idA; rw [getD_set, if_neg (fun q => hne q.1.symm)]
    have e2 : cntA (S.set h (S.getD i (0, 0))) i = cntA S i := by unfold cntA; rw [getD_set, if_neg (fun q => hne q.1.symm)]
    rw [e1, e2, if_neg (show ¬ (idA S h = x ∧ 0 < cntA S h) from fun q => by have := H.free; omega)]
    show _ - 0 + (if idA S i = x ∧ 0 < cntA S i then cntA S i else 0) - _ + 0 = _
    omega
/-- A slot whose node stays. -/
theorem Hol.stay {h i : Nat} (H : Hol hm S l h i) (hh : h < S.length) (hi : i < S.length) (hne : i ≠ h) (hc : 0 < cntA S i) (hnn : nxtN S.length i ≠ h) (hm0 : ∀ x, hm x < S.length) (hw : ¬ wayN S.length (hm (idA S i)) h ≤ wayN S.length (hm (idA S i)) i) :
    Hol hm S l h (nxtN S.length i) := by
  have hstep : ∀ k, k < S.length → wayN S.length h k < wayN S.length h (nxtN S.length i) → wayN S.length h k < wayN S.length h i ∨ k = i := fun k hk hlt => by
    unfold wayN nxtN at hlt
    unfold wayN
    unfold nxtN at hnn
    split at hlt <;> split at hlt <;> split at hlt <;> split <;> split <;> omega
  refine ⟨H.pos, H.free, fun k hk hkr hlt => ?_, H.path, fun j hj hcj hlt => ?_, H.one, H.same⟩
  · rcases hstep k hk hlt with h1 | h1
    · exact H.full k hk hkr h1
    · rw [h1]; exact hc
  · rcases hstep j hj hlt with h1 | h1
    · exact H.near j hj hcj h1
    · subst h1; omega
/-- Behind the hole's run: all is found again. -/
theorem Hol.shut {h i : Nat} (H : Hol hm S l h i) (hh : h < S.length) (hi : i < S.length) (hne : i ≠ h) (hc : cntA S i = 0) (hm0 : ∀ x, hm x < S.length) : Tab hm S l := by
  refine ⟨H.pos, fun j hj hcj k hk hlt => ?_, H.one, H.same⟩
  by_cases hkh : k = h
  · exfalso
    subst hkh
    have hnear : ¬ wayN S.length k j < wayN S.length k i := fun q => H.near j hj hcj q hlt
    have hij : i ≠ j := fun e => by subst e; omega
    have hmj := hm0 (idA S j)
    have := H.path j hj hcj i hi hne (by
      unfold wayN at hlt hnear ⊢
      split at hlt <;> split at hlt <;> split at hnear <;> split at hnear <;> split <;> first | omega | (split <;> omega))
    omega
  · exact H.path j hj hcj k hk hkh hlt
end
/-- An empty table. -/
theorem Tab.nil (hm : Int → Nat) (n : Nat) : Tab hm (List.replicate n (0, 0)) [] := by
  have hc : ∀ k, cntA (List.replicate n ((0 : Int), (0 : Int))) k = 0 := fun k => by
    unfold cntA
    rw [List.getD_eq_getElem?_getD, List.getElem?_replicate]
    split <;> rfl
  refine ⟨fun k => by rw [hc]; omega, fun j _ h => by rw [hc] at h; omega, fun i j _ _ h => by rw [hc] at h; omega, fun x => ?_⟩
  have : occ (List.replicate n ((0 : Int), (0 : Int))) = [] := by
    unfold occ
    rw [List.filter_eq_nil_iff]
    intro p hp
    rw [List.eq_of_mem_replicate hp]
    simp
  rw [this]
end StoM
end Go.Proofs.YtfjgpjgphdiliaaGreat
/- Words for a slice that the call itself makes: what it holds, an append of one element or of another slice, its text. By the prover of this repo. -/
namespace Go.Proofs.YtfjgpjgphdiliaaGreat
open Go.RowKit

/-- What the program's tables say of a slice type and its elements: of so many cells and bytes each. -/
structure Elem (P : Program) (t e : TypeId) (z : Value) (size bytes : Nat) : Prop where
  slice : P.underlying t = some (.slice e)
  info : (P.info? e).map (fun i => (i.zero, i.size, i.bytes)) = some (some z, size, bytes)
  cells : z.cells.size = size
  pos : 0 < size ∧ 0 < bytes

theorem one1 {u : Value} (h : u.oneCell' = true) : ∀ x ∈ [u], x.oneCell' = true := by intro x hx; simp at hx; subst hx; exact h
theorem one2 {u v : Value} (h : u.oneCell' = true) (k : v.oneCell' = true) : ∀ x ∈ [u, v], x.oneCell' = true := by
  intro x hx
  simp at hx
  rcases hx with rfl | rfl
  · exact h
  · exact k

theorem range_getD {α β : Type} (l : List α) (d : α) (g : α → β) : (List.range l.length).map (fun i => g (l.getD i d)) = l.map g := by
  apply List.ext_getElem?
  intro i
  by_cases h : i < l.length
  · simp [h]
  · simp [h]

section
variable {P : Program} {t e : TypeId} {z : Value} {size bytes : Nat}

theorem run_app_nil (w : World) (E : Elem P t e z size bytes) (ty : TypeId) (base : Nat) (v : Value) (n : Nat) (xs : List Value) (hown : w.ownsRow base e size v n xs) (c : Nat) :
    (Builtin.append_ #[t, t] ty #[v, .slice none 0 c]).run P w = .ok v w := by
  obtain ⟨i, hi, _, _, _⟩ := info_parts E.info
  rcases hown.2 with ⟨rfl, rfl⟩ | ⟨g, cap, cur, rfl, _, _, hnc, _⟩
  · simp [Builtin.append_, run_underlying E.slice, sizeOf, typeInfo, hi, Builtin.lenOf, Builtin.firstCells]
  · simp [Builtin.append_, run_underlying E.slice, sizeOf, typeInfo, hi, Builtin.lenOf, Builtin.firstCells, hnc, storeCells]

theorem run_app (w : World) (E : Elem P t e z size bytes) (ty : TypeId) (base : Nat) (v : Value) (n : Nat) (xs : List Value) (hown : w.ownsRow base e size v n xs)
    (A : Option Addr) (m c : Nat) (f : Nat → Value) (hr : Rd w A m size f) (h1 : ∀ i, i < m * size → (f i).oneCell' = true)
    (hb : (n + m) * bytes ≤ 140737488355328) (hbase : base ≤ w.heap.size) (hnil : A = none → m = 0) :
    ∃ v' w', (Builtin.append_ #[t, t] ty #[v, .slice A m c]).run P w = .ok v' w' ∧ w'.ownsRow base e size v' (n + m) (xs ++ (List.range (m * size)).map f) ∧ w.grownBy w' v.ownBlock ∧
      (v'.ownBlock = v.ownBlock ∨ v'.ownBlock = some w.heap.size) := by
  rcases A with _ | ad
  · obtain rfl := hnil rfl
    exact ⟨v, w, run_app_nil w E ty base v n xs hown c, by simpa using hown, World.grownBy.refl w _, .inl rfl⟩
  · obtain ⟨i, hi, hz, hs, hby⟩ := info_parts E.info
    have hle : n + m ≤ (n + m) * bytes := Nat.le_mul_of_pos_right _ E.pos.2
    have hcells : ∀ j u, ((List.range (m * size)).map f)[j]? = some u → w.cell? (ad.add j) = some u := by
      intro j u hu
      have hj : j < m * size := by
        have := (List.getElem?_eq_some_iff.1 hu).1
        simpa using this
      have hm : 0 < m := Nat.pos_of_ne_zero (fun k => by subst k; simp at hj)
      obtain ⟨b, off, h, _, hc⟩ := hr hm
      injection h with h
      subst h
      have hadd : (⟨b, off, none⟩ : Addr).add j = ⟨b, off + j, none⟩ := by unfold Addr.add; split <;> simp_all
      rw [hadd, hc j hj]
      simp [hj] at hu
      rw [hu]
    obtain ⟨v', w', hrun, h2, h3, _, h5⟩ := run_append_own_at (P := P) w base t ty e i z size bytes E.slice hi hz hs hby E.cells E.pos.1 v n xs hown ad m c ((List.range (m * size)).map f)
      (by simp) hcells (by intro u hu; simp at hu; obtain ⟨j, hj, rfl⟩ := hu; exact h1 j hj) (by simp only [maxLen]; omega) hb hbase
    exact ⟨v', w', hrun, h2, h3, h5⟩

theorem wpList_app {ops : Array Oper} {rest : List Oper} {o : Oper} {a : Act} {Q : Exit → Act → World → Prop} {w : World} (E : Elem P t e z size bytes) (hgd : o.guard = none) (s x : Operand)
    (ho : o.op = .call { callee := .builtin .append, args := #[s, x], argTypes := #[t, t] })
    (base : Nat) (v : Value) (n : Nat) (xs : List Value) (hs : a.eval s = v) (hown : w.ownsRow base e size v n xs)
    (A : Option Addr) (m c : Nat) (f : Nat → Value) (hx : a.eval x = .slice A m c) (hr : Rd w A m size f) (h1 : ∀ i, i < m * size → (f i).oneCell' = true)
    (hb : (n + m) * bytes ≤ 140737488355328) (hbase : base ≤ w.heap.size) (hnil : A = none → m = 0)
    (h : ∀ v' w', w'.ownsRow base e size v' (n + m) (xs ++ (List.range (m * size)).map f) → Below base w w' → w.grownBy w' v.ownBlock → (v'.ownBlock = v.ownBlock ∨ v'.ownBlock = some w.heap.size) → wpList P ops Q rest (a.put o.dst v') w') :
    wpList P ops Q (o :: rest) a w :=
  wpList_plain hgd fun _ hK => by
    obtain ⟨v', w', hrun, h2, h3, h4⟩ := run_app (P := P) w E o.type base v n xs hown A m c f hr h1 hb hbase hnil
    have hbel : Below base w w' := (Below.refl _ _).grown h3 hbase fun k hk => (hown.lt k hk).1
    unfold Oper.wp execOp
    simp only [ho, resolve, invoke, builtin, Sem.run_bind, Sem.run_pure, Result.andThen_ok, List.map_toArray, List.map_cons, List.map_nil, hs, hx, hrun]
    exact hK _ _ (h v' w' h2 hbel h3 h4)

/-- 'b = append(b, x)' of one element: its cells lie in a block of their own, just made. -/
theorem wpList_app1 {ops : Array Oper} {rest : List Oper} {o : Oper} {a : Act} {Q : Exit → Act → World → Prop} {w : World} (E : Elem P t e z size bytes) (hgd : o.guard = none) (s x : Operand)
    (ho : o.op = .call { callee := .builtin .append, args := #[s, x], argTypes := #[t, t] })
    (base : Nat) (v : Value) (n : Nat) (xs : List Value) (us : List Value) (e' : TypeId) (hs : a.eval s = v) (hown : w.ownsRow base e size v n xs)
    (hx : a.eval x = .slice (some ⟨w.heap.size, 0, none⟩) 1 1) (hl : us.length = size) (h1 : ∀ u ∈ us, u.oneCell' = true)
    (hb : (n + 1) * bytes ≤ 140737488355328) (hbase : base ≤ w.heap.size)
    (h : ∀ v' w', w'.ownsRow base e size v' (n + 1) (xs ++ us) → Below base w w' → w.grownBy w' v.ownBlock → (v'.ownBlock = v.ownBlock ∨ v'.ownBlock = some (w.heap.size + 1)) → wpList P ops Q rest (a.put o.dst v') w') :
    wpList P ops Q (o :: rest) a (w.alloc (.cells us.toArray e')) := by
  have hr : Rd (w.alloc (.cells us.toArray e')) (some ⟨w.heap.size, 0, none⟩) 1 size (fun i => us.getD i undef) := Rd.of_blk (Blk.made w e' us.toArray) 0 (by simp [hl]) (by
    intro i hi
    have hi2 : i < us.length := by omega
    simp [hi2])
  have hus : (List.range (1 * size)).map (fun i => us.getD i undef) = us := by
    have := range_getD us undef id
    simpa [hl] using this
  refine wpList_app E hgd s x ho base v n xs hs (hown.alloc _) (some ⟨w.heap.size, 0, none⟩) 1 1 _ hx hr ?_ hb (by simp; omega) (by simp) ?_
  · intro i hi
    have hi2 : i < us.length := by omega
    refine h1 _ ?_
    simp [hi2]
  · intro v' w' h2 h3 h4 h5
    rw [hus] at h2
    refine h v' w' h2 (((Below.refl base w).alloc hbase _).trans h3) ?_ ?_
    · exact ⟨h4.os, h4.tape, h4.output, Nat.le_trans (by simp) h4.size, fun k hk hne => (h4.block k (by simp; omega) hne).trans (Below.heap_alloc w _ k hk)⟩
    · rcases h5 with h5 | h5
      · exact .inl h5
      · exact .inr (by rw [h5]; simp)

/-- An owned slice reads as a list. -/
theorem own_rd {w : World} {base n : Nat} {A : Option Addr} {c : Nat} {xs : List Value} (h : w.ownsRow base e size (.slice A n c) n xs) : Rd w A n size (fun i => xs.getD i undef) := fun hn => by
  rcases h.2 with ⟨_, rfl⟩ | ⟨g, cap, cur, hv, hb, hg, _⟩
  · exact absurd hn (by omega)
  · injection hv with h1 h2 h3
    subst h1
    refine ⟨g, 0, rfl, (Array.getElem?_eq_some_iff.1 hg).1, fun i hi => ?_⟩
    have hlt : i < xs.length := by rw [h.1]; exact hi
    have := h.cells (g := g) rfl i xs[i] (List.getElem?_eq_getElem hlt)
    have hadd : (⟨g, 0, none⟩ : Addr).add i = ⟨g, 0 + i, none⟩ := by unfold Addr.add; split <;> simp_all
    rw [hadd] at this
    rw [this]
    simp [hlt]
/-- .. and what it is as a value. -/
theorem own_form {w : World} {base n : Nat} {v : Value} {xs : List Value} (h : w.ownsRow base e size v n xs) : ∃ A c, v = .slice A n c ∧ (A = none → n = 0) ∧ n ≤ c ∧ c ≤ maxLen := by
  rcases h.2 with ⟨rfl, rfl⟩ | ⟨g, cap, cur, rfl, _, _, h1, h2, _⟩
  · exact ⟨none, 0, rfl, fun _ => rfl, Nat.le_refl _, by unfold maxLen; omega⟩
  · exact ⟨some ⟨g, 0, none⟩, cap, rfl, (fun k => by cases k), h1, h2⟩

/-- A byte as a value. -/
def bv (c : UInt8) : Value := .int .u8 (c.toNat : Int)
/-- The text of an owned slice of bytes. -/
theorem own_text {w : World} {base n : Nat} {v : Value} {l : List UInt8} (src dst : TypeId) (hs : P.underlying src = some (.slice e)) (he : P.underlying e = some (.int .u8)) (hd : P.underlying dst = some .string)
    (h : w.ownsRow base e 1 v n (l.map bv)) : (convert src dst v).run P w = .ok (.string ⟨l.toArray⟩) w := by
  have hl : l.length = n := by have := h.1; simpa using this
  rcases h.2 with ⟨rfl, rfl⟩ | ⟨g, cap, cur, rfl, hb, hg, _⟩
  · have : l = [] := List.eq_nil_of_length_eq_zero hl
    subst this
    rw [run_convert_bytes_string w src dst e none 0 0 hs he hd]
    rfl
  · subst hl
    refine run_convert_bytes_back w src dst e ⟨g, 0, none⟩ cap l hs he hd fun j hj => ?_
    exact h.cells (g := g) rfl j (bv l[j]) (by simp [hj])
end
end Go.Proofs.YtfjgpjgphdiliaaGreat
/- Bit operations on int64 of numbers that are not negative, as operations of natural numbers. By the prover of this repo. -/
namespace Go.Proofs.YtfjgpjgphdiliaaGreat

theorem toNat_i64 (a : Nat) (ha : a < 9223372036854775808) : (BitVec.ofInt 64 (a : Int)).toNat = a := by
  rw [BitVec.ofInt_natCast, BitVec.toNat_ofNat]
  exact Nat.mod_eq_of_lt (by omega)
theorem or_i64 (a b : Nat) (ha : a < 9223372036854775808) (hb : b < 9223372036854775808) : bits .or .i64 (a : Int) (b : Int) = ((a ||| b : Nat) : Int) := by
  have hx : a ||| b < 2 ^ 63 := Nat.or_lt_two_pow (by omega) (by omega)
  have e : (BitVec.ofInt 64 (a : Int) ||| BitVec.ofInt 64 (b : Int)).toNat = a ||| b := by rw [BitVec.toNat_or, toNat_i64 a ha, toNat_i64 b hb]
  show IntKind.i64.wrap ((BitVec.ofInt 64 (a : Int) ||| BitVec.ofInt 64 (b : Int)).toNat : Int) = _
  rw [e, IntKind.wrap_i64]
  omega
theorem and_i64 (a b : Nat) (ha : a < 9223372036854775808) (hb : b < 9223372036854775808) : bits .and .i64 (a : Int) (b : Int) = ((a &&& b : Nat) : Int) := by
  have hx : a &&& b < 2 ^ 63 := Nat.and_lt_two_pow _ (by omega)
  have e : (BitVec.ofInt 64 (a : Int) &&& BitVec.ofInt 64 (b : Int)).toNat = a &&& b := by rw [BitVec.toNat_and, toNat_i64 a ha, toNat_i64 b hb]
  show IntKind.i64.wrap ((BitVec.ofInt 64 (a : Int) &&& BitVec.ofInt 64 (b : Int)).toNat : Int) = _
  rw [e, IntKind.wrap_i64]
  omega
theorem xor_i64 (a b : Nat) (ha : a < 9223372036854775808) (hb : b < 9223372036854775808) : bits .xor .i64 (a : Int) (b : Int) = ((a ^^^ b : Nat) : Int) := by
  have hx : a ^^^ b < 2 ^ 63 := Nat.xor_lt_two_pow (by omega) (by omega)
  have e : (BitVec.ofInt 64 (a : Int) ^^^ BitVec.ofInt 64 (b : Int)).toNat = a ^^^ b := by rw [BitVec.toNat_xor, toNat_i64 a ha, toNat_i64 b hb]
  show IntKind.i64.wrap ((BitVec.ofInt 64 (a : Int) ^^^ BitVec.ofInt 64 (b : Int)).toNat : Int) = _
  rw [e, IntKind.wrap_i64]
  omega
/-- A power of two, and a number below it. -/
theorem or_pow (k x : Nat) (hk : k ≤ 62) (hx : x < 2 ^ k) : bits .or .i64 ((2 ^ k : Nat) : Int) (x : Int) = ((2 ^ k + x : Nat) : Int) := by
  have hp : 2 ^ k ≤ 2 ^ 62 := Nat.pow_le_pow_right (by omega) hk
  rw [or_i64 _ _ (by omega) (by omega)]
  have := Nat.two_pow_add_eq_or_of_lt hx 1
  rw [Nat.mul_one] at this
  rw [this]
/-- The last bit turned. -/
theorem xor_one (x : Nat) (hx : x < 9223372036854775808) : bits .xor .i64 (x : Int) 1 = if (x : Int) % 2 = 0 then (x : Int) + 1 else (x : Int) - 1 := by
  have h := xor_i64 x 1 hx (by omega)
  have h2 : x ^^^ 1 = if x % 2 = 0 then x + 1 else x - 1 := by
    have hd : (x ^^^ 1) / 2 = x / 2 := by rw [Nat.xor_div_two]; simp
    have hm : (x ^^^ 1) % 2 = (x + 1) % 2 := by
      have h1 := Nat.xor_mod_two_pow (a := x) (b := 1) (n := 1)
      rw [Nat.pow_one] at h1
      rw [h1]
      rcases Nat.mod_two_eq_zero_or_one x with h2 | h2 <;> rw [h2] <;> simp <;> omega
    split <;> omega
  rw [show ((1 : Nat) : Int) = 1 from rfl] at h
  rw [h, h2]
  split <;> split <;> omega
end Go.Proofs.YtfjgpjgphdiliaaGreat

/- Part 4 of the proof: texts joined by this repo's tools/merge.py (StoM). By the prover of this repo. -/
import Derived.Test.YtfjgpjgphdiliaaGreatM2
import Derived.Test.YtfjgpjgphdiliaaGreatM3
set_option linter.unusedVariables false
set_option linter.unusedSimpArgs false
/- Plain facts on what a store has: nodes with weights, one added to, one taken away, a pair folded; how far ranks may be apart; how many nodes there are once nothing is ready. No program in sight. By the prover of this repo. -/
namespace Go.Proofs.YtfjgpjgphdiliaaGreat
namespace StoM
open TwigM RollM Go.RowKit

/-- What all weigh, each so many times. -/
def sumM (g : Int → Int) : List Nd → Int
  | [] => 0
  | p :: l => p.2 * g p.1 + sumM g l
/-- All but a node. -/
def del (x : Int) (l : List Nd) : List Nd := l.filter fun p => decide (p.1 ≠ x)
abbrev put (x n : Int) (l : List Nd) : List Nd := BagM.put x n l
/-- All are nodes of a universe. -/
def InU (L : Int) (l : List Nd) : Prop := ∀ p ∈ l, 1 ≤ p.1 ∧ p.1 < 2 * pw L

theorem del_nil (x : Int) : del x [] = [] := rfl
theorem del_same {x : Int} {p : Nd} (h : p.1 = x) (l : List Nd) : del x (p :: l) = del x l := by unfold del; rw [List.filter_cons_of_neg (by simpa using h)]
theorem del_other {x : Int} {p : Nd} (h : p.1 ≠ x) (l : List Nd) : del x (p :: l) = p :: del x l := by unfold del; rw [List.filter_cons_of_pos (by simpa using h)]
theorem del_mem {x : Int} {l : List Nd} {p : Nd} : p ∈ del x l ↔ p ∈ l ∧ p.1 ≠ x := by unfold del; rw [List.mem_filter, decide_eq_true_eq]
theorem del_len (x : Int) (l : List Nd) : (del x l).length ≤ l.length := List.length_filter_le _ _
theorem sumM_split (g : Int → Int) (x : Int) : ∀ l : List Nd, sumM g l = wt x l * g x + sumM g (del x l)
  | [] => by simp [sumM, wt, del_nil]
  | p :: l => by
    have ih := sumM_split g x l
    by_cases h : p.1 = x
    · rw [del_same h, sumM, wt, if_pos h, ih, h, Int.add_mul]; omega
    · rw [del_other h, sumM, sumM, wt, if_neg h, ih, Int.zero_add]; omega
theorem wt_del (id x : Int) : ∀ l : List Nd, wt id (del x l) = if id = x then 0 else wt id l
  | [] => by rw [del_nil]; split <;> rfl
  | p :: l => by
    have ih := wt_del id x l
    by_cases h : p.1 = x
    · rw [del_same h, ih]
      by_cases h2 : id = x
      · rw [if_pos h2, if_pos h2]
      · rw [if_neg h2, if_neg h2, wt, if_neg (by omega), Int.zero_add]
    · rw [del_other h, wt, ih, wt]
      by_cases h2 : id = x
      · rw [if_pos h2, if_pos h2, if_neg (by omega)]; rfl
      · rw [if_neg h2, if_neg h2]
theorem sumM_ext (g : Int → Int) : ∀ (n : Nat) (a b : List Nd), a.length + b.length ≤ n → (∀ id, wt id a = wt id b) → sumM g a = sumM g b
  | _, [], [], _, _ => rfl
  | 0, p :: a, b, h, _ => by simp at h
  | 0, [], q :: b, h, _ => by simp at h
  | n + 1, p :: a, b, h, hw => by
    rw [sumM_split g p.1 (p :: a), sumM_split g p.1 b, hw p.1, del_same rfl]
    rw [sumM_ext g n (del p.1 a) (del p.1 b) (by have h1 := del_len p.1 a; have h2 := del_len p.1 b; simp at h; omega) fun id => by
      have h1 := wt_del id p.1 (p :: a)
      rw [del_same rfl] at h1
      rw [h1, wt_del, hw id]]
  | n + 1, [], q :: b, h, hw => by
    rw [sumM_split g q.1 (q :: b), ← hw q.1, del_same rfl]
    rw [← sumM_ext g n [] (del q.1 b) (by have h2 := del_len q.1 b; simp at h ⊢; omega) fun id => by
      have h1 := wt_del id q.1 (q :: b)
      rw [del_same rfl] at h1
      rw [h1, ← hw id]
      split <;> rfl]
    simp [wt, sumM]
theorem sumL_M : ∀ l : List Nd, sumL l = sumM (fun _ => 1) l
  | [] => rfl
  | p :: l => by rw [sumL, sumM, sumL_M l]; omega
theorem wt_M (x : Int) : ∀ l : List Nd, wt x l = sumM (fun id => if id = x then 1 else 0) l
  | [] => rfl
  | p :: l => by rw [wt, sumM, wt_M x l]; split <;> omega
theorem sumM_put (g : Int → Int) (x n : Int) : ∀ l : List Nd, sumM g (put x n l) = sumM g l + n * g x
  | [] => by simp [put, BagM.put, sumM]
  | p :: l => by
    have ih := sumM_put g x n l
    simp only [put] at ih
    simp only [put, BagM.put]
    split
    · rename_i h
      simp only [sumM]
      rw [h, Int.add_mul]; omega
    · split
      · simp only [sumM]; omega
      · simp only [sumM]; rw [ih]; omega
theorem wt_put (id x n : Int) (l : List Nd) : wt id (put x n l) = wt id l + if x = id then n else 0 := by
  rw [wt_M, sumM_put, ← wt_M]
  split <;> omega
theorem sumM_sub (f g : Int → Int) : ∀ l : List Nd, sumM f l - sumM g l = sumM (fun id => f id - g id) l
  | [] => rfl
  | p :: l => by
    have ih := sumM_sub f g l
    simp only [sumM]
    rw [← ih, Int.mul_sub]; omega
theorem sumM_add (f g : Int → Int) : ∀ l : List Nd, sumM f l + sumM g l = sumM (fun id => f id + g id) l
  | [] => rfl
  | p :: l => by
    have ih := sumM_add f g l
    simp only [sumM]
    rw [← ih, Int.mul_add]; omega
theorem sumM_le {f g : Int → Int} : ∀ {l : List Nd}, Cnt l → (∀ p ∈ l, f p.1 ≤ g p.1) → sumM f l ≤ sumM g l
  | [], _, _ => Int.le_refl _
  | p :: l, h, hfg => by
    have ih := sumM_le (l := l) (fun q hq => h q (by simp [hq])) (fun q hq => hfg q (by simp [hq]))
    have := Int.mul_le_mul_of_nonneg_left (hfg p (by simp)) (h p (by simp))
    simp only [sumM]; omega
theorem sumM_congr {f g : Int → Int} : ∀ {l : List Nd}, (∀ p ∈ l, f p.1 = g p.1) → sumM f l = sumM g l
  | [], _ => rfl
  | p :: l, h => by simp only [sumM]; rw [h p (by simp), sumM_congr fun q hq => h q (by simp [hq])]
theorem sumM_map (g : Int → Int) (m : Int → Int) : ∀ l : List Nd, sumM g (l.map fun p => (m p.1, p.2)) = sumM (fun id => g (m id)) l
  | [] => rfl
  | p :: l => by simp only [List.map_cons, sumM]; rw [sumM_map g m l]
theorem sumM_zero : ∀ l : List Nd, sumM (fun _ => 0) l = 0
  | [] => rfl
  | p :: l => by simp only [sumM]; rw [sumM_zero l]; omega
theorem sumM_nonneg {g : Int → Int} {l : List Nd} (h : Cnt l) (hg : ∀ p ∈ l, 0 ≤ g p.1) : 0 ≤ sumM g l := by
  rw [← sumM_zero l]
  exact sumM_le h hg

theorem canon_put {l : List Nd} (h : Canon l) {x n : Int} (hn : 0 < n) : Canon (put x n l) :=
  ⟨BagM.put_rise x n l h.rise, fun p hp => BagM.put_pos x n (by omega) l (fun q hq => h.cnt q hq) p hp⟩
theorem canon_del {l : List Nd} (h : Canon l) (x : Int) : Canon (del x l) :=
  ⟨h.rise.filter _, fun p hp => h.cnt p (del_mem.1 hp).1⟩
theorem inU_put {L : Int} {l : List Nd} (h : InU L l) {x n : Int} (h1 : 1 ≤ x) (h2 : x < 2 * pw L) : InU L (put x n l) := fun p hp => by
  rcases BagM.put_mem x n l p hp with e | hp
  · rw [e]; exact ⟨h1, h2⟩
  · exact h p hp
theorem inU_del {L : Int} {l : List Nd} (h : InU L l) (x : Int) : InU L (del x l) := fun p hp => h p (del_mem.1 hp).1
theorem wt_mem {l : List Nd} (h : Canon l) {p : Nd} (hp : p ∈ l) : wt p.1 l = p.2 := by
  induction l with
  | nil => cases hp
  | cons q l ih =>
    obtain ⟨h1, h2⟩ := List.pairwise_cons.1 h.rise
    rw [wt]
    rcases List.mem_cons.1 hp with rfl | hp
    · rw [if_pos rfl, wt_zero p.1 l fun x hx => by have := h1 x hx; omega]; omega
    · rw [if_neg (by have := h1 p hp; omega), ih ⟨h2, fun x hx => h.cnt x (by simp [hx])⟩ hp]; omega
theorem mem_wt {l : List Nd} {x : Int} (h : wt x l ≠ 0) : ∃ p ∈ l, p.1 = x := by
  refine Classical.byContradiction fun k => h (wt_zero x l fun p hp e => k ⟨p, hp, e⟩)
theorem len_del {l : List Nd} (h : Canon l) (x : Int) : (del x l).length = l.length - if wt x l = 0 then 0 else 1 := by
  induction l with
  | nil => simp [del_nil]
  | cons p l ih =>
    obtain ⟨h1, h2⟩ := List.pairwise_cons.1 h.rise
    have hc := h.cnt p (by simp)
    by_cases hx : p.1 = x
    · have hz := wt_zero x l fun y hy => by have := h1 y hy; omega
      have hd : del x l = l := by
        unfold del
        rw [List.filter_eq_self]
        intro y hy
        have := h1 y hy
        simp; omega
      rw [del_same hx, wt, if_pos hx, hz, if_neg (by omega), hd]; simp
    · have ih := ih ⟨h2, fun y hy => h.cnt y (by simp [hy])⟩
      rw [del_other hx, wt, if_neg hx, Int.zero_add, List.length_cons, List.length_cons, ih]
      split
      · omega
      · rename_i hne
        obtain ⟨q, hq, _⟩ := mem_wt hne
        have := List.length_pos_of_mem hq
        omega
theorem len_put {l : List Nd} (h : Canon l) (x n : Int) : (put x n l).length = l.length + if wt x l = 0 then 1 else 0 := by
  induction l with
  | nil => simp [put, BagM.put, wt]
  | cons p l ih =>
    obtain ⟨h1, h2⟩ := List.pairwise_cons.1 h.rise
    have hc := h.cnt p (by simp)
    have ih := ih ⟨h2, fun y hy => h.cnt y (by simp [hy])⟩
    simp only [put] at ih
    simp only [put, BagM.put]
    by_cases hx : p.1 = x
    · rw [if_pos hx, wt, if_pos hx, wt_zero x l fun y hy => by have := h1 y hy; omega, if_neg (by omega)]; simp
    · rw [if_neg hx, wt, if_neg hx, Int.zero_add]
      by_cases hlt : x < p.1
      · rw [if_pos hlt, wt_zero x l fun y hy => by have := h1 y hy; omega, if_pos rfl]; simp
      · rw [if_neg hlt, List.length_cons, List.length_cons, ih]; omega
theorem sumL_put (x n : Int) (l : List Nd) : sumL (put x n l) = sumL l + n := by rw [sumL_M, sumM_put, ← sumL_M]; omega
theorem sumL_del (x : Int) (l : List Nd) : sumL (del x l) = sumL l - wt x l := by
  have := sumM_split (fun _ => 1) x l
  rw [sumL_M, sumL_M]; omega
theorem canon_same {a b : List Nd} (ha : Canon a) (hb : Canon b) (h : ∀ id, wt id a = wt id b) : a = b := canon_ext a b ha hb h

/-- The greatest value that a node holds. -/
def hiF (L id : Int) : Int := loF L id + pw (L - lg id) - 1
/-- What weighs up to a number at least, and at most. -/
def lowS (L y : Int) (l : List Nd) : Int := sumM (fun id => if hiF L id ≤ y then 1 else 0) l
def highS (L y : Int) (l : List Nd) : Int := sumM (fun id => if loF L id ≤ y then 1 else 0) l
/-- How deep all nodes lie. -/
def pot : List Nd → Int
  | [] => 0
  | p :: l => lg p.1 + pot l
theorem pot_nonneg : ∀ l : List Nd, 0 ≤ pot l
  | [] => Int.le_refl _
  | p :: l => by
    have h1 := pot_nonneg l
    have h2 := lg_nonneg p.1
    rw [pot]; omega
theorem pot_del {l : List Nd} (h : Canon l) (x : Int) : pot (del x l) = pot l - if wt x l = 0 then 0 else lg x := by
  induction l with
  | nil => simp [del_nil, pot, wt]
  | cons p l ih =>
    obtain ⟨h1, h2⟩ := List.pairwise_cons.1 h.rise
    have hc := h.cnt p (by simp)
    by_cases hx : p.1 = x
    · have hz := wt_zero x l fun y hy => by have := h1 y hy; omega
      have hd : del x l = l := by
        unfold del
        rw [List.filter_eq_self]
        intro y hy
        have := h1 y hy
        simp; omega
      rw [del_same hx, wt, if_pos hx, hz, if_neg (by omega), hd, pot, hx]; omega
    · have ih := ih ⟨h2, fun y hy => h.cnt y (by simp [hy])⟩
      rw [del_other hx, wt, if_neg hx, Int.zero_add, pot, pot, ih]
      split <;> omega
theorem pot_put {l : List Nd} (h : Canon l) (x n : Int) : pot (put x n l) = pot l + if wt x l = 0 then lg x else 0 := by
  induction l with
  | nil => simp [put, BagM.put, wt, pot]
  | cons p l ih =>
    obtain ⟨h1, h2⟩ := List.pairwise_cons.1 h.rise
    have hc := h.cnt p (by simp)
    have ih := ih ⟨h2, fun y hy => h.cnt y (by simp [hy])⟩
    simp only [put] at ih
    simp only [put, BagM.put]
    by_cases hx : p.1 = x
    · rw [if_pos hx, wt, if_pos hx, wt_zero x l fun y hy => by have := h1 y hy; omega, if_neg (by omega), pot, pot, hx]; simp only [Int.add_zero]
    · rw [if_neg hx, wt, if_neg hx, Int.zero_add]
      by_cases hlt : x < p.1
      · rw [if_pos hlt, wt_zero x l fun y hy => by have := h1 y hy; omega, if_pos rfl, pot, pot]; simp only []; omega
      · rw [if_neg hlt, pot, pot, ih]; split <;> omega
theorem pot_le {L : Int} (hL0 : 0 ≤ L) (hL : L ≤ 48) : ∀ {l : List Nd}, InU L l → pot l ≤ 48 * (l.length : Int)
  | [], _ => by simp [pot]
  | p :: l, h => by
    have ih := pot_le hL0 hL (l := l) fun q hq => h q (by simp [hq])
    obtain ⟨u1, u2⟩ := h p (by simp)
    have := (lg_le u1 hL0).2 u2
    rw [pot, List.length_cons]; omega
/-- A pair, and its parent. -/
def pairS (l : List Nd) (id : Int) : Int := wt (2 * id) l + wt (2 * id + 1) l
def foldAt (id : Int) (l : List Nd) : List Nd := put id (pairS l id) (del (2 * id + 1) (del (2 * id) l))
theorem sumM_fold (g : Int → Int) (id : Int) (l : List Nd) : sumM g (foldAt id l) = sumM g l - wt (2 * id) l * g (2 * id) - wt (2 * id + 1) l * g (2 * id + 1) + pairS l id * g id := by
  unfold foldAt
  have h1 := sumM_split g (2 * id) l
  have h2 := sumM_split g (2 * id + 1) (del (2 * id) l)
  rw [wt_del, if_neg (by omega)] at h2
  rw [sumM_put]
  omega
theorem wt_fold (x id : Int) (l : List Nd) (h : 1 ≤ id) : wt x (foldAt id l) = if x = id then wt id l + pairS l id else if x = 2 * id ∨ x = 2 * id + 1 then 0 else wt x l := by
  unfold foldAt
  rw [wt_put, wt_del, wt_del]
  by_cases h1 : x = id
  · subst h1
    rw [if_pos rfl, if_pos rfl, if_neg (show ¬ x = 2 * x + 1 by omega), if_neg (show ¬ x = 2 * x by omega)]
  · rw [if_neg h1, if_neg (show ¬ id = x by omega)]
    by_cases h2 : x = 2 * id + 1
    · rw [if_pos h2, if_pos (Or.inr h2)]; rfl
    · rw [if_neg h2]
      by_cases h3 : x = 2 * id
      · rw [if_pos h3, if_pos (Or.inl h3)]; rfl
      · rw [if_neg h3, if_neg (by omega)]; omega
section
variable {L id : Int} {l : List Nd}
theorem canon_fold (h : Canon l) (hp : 0 < pairS l id) : Canon (foldAt id l) := canon_put (canon_del (canon_del h _) _) hp
theorem inU_fold (h : InU L l) (h1 : 1 ≤ id) (h2 : id < 2 * pw L) : InU L (foldAt id l) := inU_put (inU_del (inU_del h _) _) h1 h2
theorem sumL_fold : sumL (foldAt id l) = sumL l := by
  rw [sumL_M, sumM_fold, ← sumL_M]
  unfold pairS; omega
theorem pot_fold (hc : Canon l) (h1 : 1 ≤ id) (hL : 1 ≤ L) (h2 : id < pw L) (hp : 0 < pairS l id) : pot (foldAt id l) ≤ pot l - 1 := by
  obtain ⟨_, _, e1, e2, _⟩ := kids_facts hL h1 h2
  have hg := lg_nonneg id
  have q1 := pot_del hc (2 * id)
  have q2 := pot_del (canon_del hc (2 * id)) (2 * id + 1)
  rw [wt_del, if_neg (show ¬ 2 * id + 1 = 2 * id by omega), e2] at q2
  rw [e1] at q1
  have q3 := pot_put (canon_del (canon_del hc (2 * id)) (2 * id + 1)) id (pairS l id)
  unfold foldAt
  rw [q3, q2, q1]
  unfold pairS at hp
  by_cases z1 : wt (2 * id) l = 0
  · have z2 : wt (2 * id + 1) l ≠ 0 := by omega
    rw [if_pos z1, if_neg z2]
    split <;> omega
  · rw [if_neg z1]
    split <;> split <;> omega
theorem hi_kids (h1 : 1 ≤ id) (hL : 1 ≤ L) (h2 : id < pw L) : loF L (2 * id) = loF L id ∧ loF L id ≤ loF L (2 * id + 1) ∧ hiF L (2 * id) ≤ hiF L id ∧ hiF L (2 * id + 1) = hiF L id := by
  obtain ⟨_, _, e1, e2, _, e3, e4, e5⟩ := kids_facts hL h1 h2
  have := pw_pos (L - (lg id + 1))
  unfold hiF
  rw [e1, e2, e3, e4, e5]
  omega
theorem low_fold (y : Int) (hc : Cnt l) (h1 : 1 ≤ id) (hL : 1 ≤ L) (h2 : id < pw L) : lowS L y (foldAt id l) ≤ lowS L y l := by
  obtain ⟨_, _, k3, k4⟩ := hi_kids h1 hL h2
  have w1 := wt_nonneg (2 * id) l hc
  have w2 := wt_nonneg (2 * id + 1) l hc
  unfold lowS
  rw [sumM_fold]
  unfold pairS
  rw [k4]
  by_cases h : hiF L id ≤ y
  · rw [if_pos h, if_pos (by omega)]; omega
  · rw [if_neg h]
    split <;> omega
theorem high_fold (y : Int) (hc : Cnt l) (h1 : 1 ≤ id) (hL : 1 ≤ L) (h2 : id < pw L) : highS L y l ≤ highS L y (foldAt id l) := by
  obtain ⟨k1, k2, _, _⟩ := hi_kids h1 hL h2
  have w1 := wt_nonneg (2 * id) l hc
  have w2 := wt_nonneg (2 * id + 1) l hc
  unfold highS
  rw [sumM_fold]
  unfold pairS
  rw [k1]
  by_cases h : loF L id ≤ y
  · rw [if_pos h]
    split <;> omega
  · rw [if_neg h, if_neg (by omega)]; omega
/-- No node but leaves weighs more than so much. -/
def LightW (L m : Int) (l : List Nd) : Prop := ∀ id, 1 ≤ id → id < pw L → wt id l ≤ m
theorem light_fold {m : Int} (h : LightW L m l) (h1 : 1 ≤ id) (hm : 0 ≤ m) (hr : pairS l id + wt id l ≤ m) : LightW L m (foldAt id l) := fun x h3 h4 => by
  rw [wt_fold x id l h1]
  split
  · omega
  · split
    · exact hm
    · exact h x h3 h4
/-- Where a node's values lie. -/
theorem ends_in (hL : 1 ≤ L) (h1 : 1 ≤ id) (h2 : id < 2 * pw L) : 0 ≤ loF L id ∧ loF L id ≤ hiF L id ∧ hiF L id < pw L := by
  have hd := (lg_le h1 (show 0 ≤ L by omega)).2 h2
  have hb := ends_bound (show 0 ≤ L by omega) h1 h2 (show 0 ≤ L - lg id by omega) (Int.le_refl _)
  have hs := (lg_spec h1).1
  have hp := pw_pos (L - lg id)
  have e : loF L id = id * pw (L - lg id) - pw L := by
    unfold loF
    rw [Int.sub_mul, ← pw_add (lg_nonneg id) (by omega), show lg id + (L - lg id) = L by omega]
  have h0 : 0 ≤ loF L id := by
    unfold loF
    exact Int.mul_nonneg (by omega) (by omega)
  unfold hiF
  omega
end
/-- The node of a depth above a value. -/
def ancF (L y d : Int) : Int := (pw L + y) / pw (L - d)
theorem anc_in {L y d : Int} (hL : 1 ≤ L) (h0 : 0 ≤ y) (h1 : y < pw L) (hd0 : 0 ≤ d) (hd : d < L) : 1 ≤ ancF L y d ∧ ancF L y d < pw L := by
  have hp := pw_pos L
  have e : lg (pw L + y) = L := lg_unique (by omega) (by omega) (by omega)
  obtain ⟨a1, a2⟩ := lg_div (n := pw L + y) (by omega) (show 0 ≤ L - d by omega) (by omega)
  refine ⟨a1, ?_⟩
  unfold ancF
  exact (lg_lt a1 (by omega)).1 (by omega)
theorem deep_le {L y m : Int} {l : List Nd} (hL : 1 ≤ L) (hc : Cnt l) (hu : InU L l) (hl : LightW L m l) (h0 : 0 ≤ y) (h1 : y < pw L) :
    ∀ k : Nat, (k : Int) ≤ L → sumM (fun id => if (loF L id ≤ y ∧ y < hiF L id) ∧ lg id < k then 1 else 0) l ≤ k * m
  | 0, _ => by
    rw [sumM_congr (g := fun _ => 0) (fun p _ => if_neg (fun h => by have := lg_nonneg p.1; omega)), sumM_zero]; omega
  | k + 1, hk => by
    have ih := deep_le hL hc hu hl h0 h1 k (by omega)
    obtain ⟨a1, a2⟩ := anc_in hL h0 h1 (show (0 : Int) ≤ (k : Int) by omega) (by omega)
    have hw := hl _ a1 a2
    rw [wt_M] at hw
    have hle : sumM (fun id => if (loF L id ≤ y ∧ y < hiF L id) ∧ lg id < ((k + 1 : Nat) : Int) then 1 else 0) l ≤
        sumM (fun id => (if (loF L id ≤ y ∧ y < hiF L id) ∧ lg id < (k : Int) then 1 else 0) + (if id = ancF L y (k : Int) then 1 else 0)) l := by
      refine sumM_le hc fun p hp => ?_
      obtain ⟨u1, u2⟩ := hu p hp
      by_cases hcv : loF L p.1 ≤ y ∧ y < hiF L p.1
      · by_cases hlt : lg p.1 < (k : Int)
        · rw [if_pos ⟨hcv, by omega⟩, if_pos ⟨hcv, hlt⟩]; split <;> omega
        · by_cases he : lg p.1 = (k : Int)
          · have hab := (above_leaf hL u1 u2 h0 h1).2 ⟨hcv.1, by have := hcv.2; unfold hiF at this; omega⟩
            unfold aboveB at hab
            have hab := (of_decide_eq_true hab).2.2.2
            have e : lg (pw L + y) = L := lg_unique (by omega) (by have := pw_pos L; omega) (by omega)
            rw [e, he] at hab
            rw [if_pos ⟨hcv, by omega⟩, if_neg (fun h => hlt h.2), if_pos (by rw [← hab]; rfl)]; omega
          · rw [if_neg (fun h => by have := h.2; omega)]
            split <;> split <;> omega
      · rw [if_neg (fun h => hcv h.1), if_neg (fun h => hcv h.1)]; split <;> omega
    rw [← sumM_add] at hle
    have e : ((k + 1 : Nat) : Int) * m = (k : Int) * m + m := by rw [Int.natCast_add, Int.add_mul]; omega
    rw [e]
    omega
/-- How far both ranks may be apart. -/
theorem slack {L y m : Int} {l : List Nd} (hL : 1 ≤ L) (hm : 0 ≤ m) (hc : Cnt l) (hu : InU L l) (hl : LightW L m l) : highS L y l - lowS L y l ≤ L * m := by
  have hLm : 0 ≤ L * m := Int.mul_nonneg (by omega) hm
  unfold highS lowS
  rw [sumM_sub]
  have hsame : sumM (fun id => (if loF L id ≤ y then 1 else 0) - (if hiF L id ≤ y then 1 else 0)) l = sumM (fun id => if loF L id ≤ y ∧ y < hiF L id then 1 else 0) l := sumM_congr fun p hp => by
    obtain ⟨u1, u2⟩ := hu p hp
    obtain ⟨_, v2, _⟩ := ends_in hL u1 u2
    by_cases ha : loF L p.1 ≤ y
    · by_cases hb : hiF L p.1 ≤ y
      · rw [if_pos ha, if_pos hb, if_neg (fun h => by omega)]; omega
      · rw [if_pos ha, if_neg hb, if_pos ⟨ha, by omega⟩]; omega
    · rw [if_neg ha, if_neg (by omega), if_neg (fun h => ha h.1)]; omega
  rw [hsame]
  by_cases h0 : 0 ≤ y ∧ y < pw L
  · have h := deep_le hL hc hu hl h0.1 h0.2 L.toNat (by omega)
    rw [show ((L.toNat : Nat) : Int) = L by omega] at h
    refine Int.le_trans (Int.le_of_eq (sumM_congr fun p hp => ?_)) h
    obtain ⟨u1, u2⟩ := hu p hp
    by_cases hcv : loF L p.1 ≤ y ∧ y < hiF L p.1
    · have hd := (lg_le u1 (show 0 ≤ L by omega)).2 u2
      have hlt : lg p.1 < L := by
        rcases Int.lt_or_eq_of_le hd with h | h
        · exact h
        · exfalso
          have := hcv.2
          unfold hiF at this
          rw [h, show L - L = 0 by omega, pw_zero] at this
          omega
      rw [if_pos hcv, if_pos ⟨hcv, hlt⟩]
    · rw [if_neg hcv, if_neg (fun h => hcv h.1)]
  · rw [sumM_congr (g := fun _ => 0) (fun p hp => by
      obtain ⟨u1, u2⟩ := hu p hp
      obtain ⟨v1, _, v3⟩ := ends_in hL u1 u2
      exact if_neg (fun h => by omega)), sumM_zero]
    exact hLm

/-- Is a pair ready? -/
def readyB (L m : Int) (l : List Nd) (id : Int) : Bool := decide (1 ≤ id ∧ id < pw L ∧ 0 < pairS l id ∧ pairS l id + wt id l ≤ m)
def sumI (f : Int → Int) : List Int → Int
  | [] => 0
  | x :: r => f x + sumI f r
theorem sumI_add (f g : Int → Int) : ∀ P : List Int, sumI (fun x => f x + g x) P = sumI f P + sumI g P
  | [] => rfl
  | x :: P => by simp only [sumI]; rw [sumI_add f g P]; omega
theorem sumI_ge (c : Int) {f : Int → Int} : ∀ {P : List Int}, (∀ x ∈ P, c ≤ f x) → (P.length : Int) * c ≤ sumI f P
  | [], _ => by simp [sumI]
  | x :: P, h => by
    have ih := sumI_ge c (P := P) fun y hy => h y (by simp [hy])
    have := h x (by simp)
    simp only [sumI, List.length_cons]
    rw [Int.natCast_add, Int.add_mul]; omega
theorem sumI_congr {f g : Int → Int} : ∀ {P : List Int}, (∀ x ∈ P, f x = g x) → sumI f P = sumI g P
  | [], _ => rfl
  | x :: P, h => by simp only [sumI]; rw [h x (by simp), sumI_congr fun y hy => h y (by simp [hy])]
theorem wts_le : ∀ (P : List Int) (l : List Nd), P.Nodup → Cnt l → sumI (fun x => wt x l) P ≤ sumL l
  | [], l, _, hc => sumL_nonneg l hc
  | x :: P, l, hP, hc => by
    obtain ⟨h1, h2⟩ := List.nodup_cons.1 hP
    have ih := wts_le P (del x l) h2 fun p hp => hc p (del_mem.1 hp).1
    rw [sumL_del] at ih
    simp only [sumI]
    rw [sumI_congr (f := fun y => wt y l) (g := fun y => wt y (del x l)) fun y hy => by
      have hne : y ≠ x := fun e => h1 (by rw [← e]; exact hy)
      show wt y l = wt y (del x l)
      rw [wt_del, if_neg hne]]
    omega
/-- The parents of all nodes: at least half as many. -/
theorem parents_all : ∀ (n : Nat) (l : List Nd), l.length ≤ n → Canon l → (∀ p ∈ l, 1 ≤ p.1) →
    ∃ P : List Int, P.Nodup ∧ (∀ q ∈ P, 1 ≤ q ∧ 0 < pairS l q) ∧ l.length ≤ 1 + 2 * P.length ∧ sumI (pairS l) P ≤ sumL l := by
  intro n
  induction n with
  | zero =>
    intro l hl hc hu
    obtain rfl := List.eq_nil_of_length_eq_zero (by omega : l.length = 0)
    exact ⟨[], List.nodup_nil, (fun q hq => by cases hq), by simp, by simp [sumI, sumL]⟩
  | succ n ih =>
    intro l hl hc hu
    by_cases hex : ∃ p ∈ l, 2 ≤ p.1
    · obtain ⟨p, hp, h2⟩ := hex
      obtain ⟨q, hq⟩ : ∃ q, p.1 / 2 = q := ⟨_, rfl⟩
      have hpq : p.1 = 2 * q ∨ p.1 = 2 * q + 1 := by omega
      have hwp : 0 < wt p.1 l := by rw [wt_mem hc hp]; exact hc.cnt p hp
      have w1 := wt_nonneg (2 * q) l hc.cntL
      have w2 := wt_nonneg (2 * q + 1) l hc.cntL
      have hpair : 0 < pairS l q := by unfold pairS; rcases hpq with e | e <;> rw [e] at hwp <;> omega
      have hc1 := canon_del hc (2 * q)
      have hc2 := canon_del hc1 (2 * q + 1)
      have hl1 := len_del hc (2 * q)
      have hl2 := len_del hc1 (2 * q + 1)
      rw [wt_del, if_neg (show ¬ 2 * q + 1 = 2 * q by omega)] at hl2
      have hs : sumL (del (2 * q + 1) (del (2 * q) l)) = sumL l - pairS l q := by
        rw [sumL_del, sumL_del, wt_del, if_neg (show ¬ 2 * q + 1 = 2 * q by omega)]
        unfold pairS; omega
      have hpos := List.length_pos_of_mem hp
      have hlen : (del (2 * q + 1) (del (2 * q) l)).length ≤ n ∧ l.length ≤ (del (2 * q + 1) (del (2 * q) l)).length + 2 := by
        refine ⟨?_, ?_⟩
        · by_cases h1 : wt (2 * q) l = 0
          · have h3 : wt (2 * q + 1) l ≠ 0 := by unfold pairS at hpair; omega
            rw [if_pos h1] at hl1
            rw [if_neg h3] at hl2
            omega
          · rw [if_neg h1] at hl1
            have := del_len (2 * q + 1) (del (2 * q) l)
            omega
        · split at hl1 <;> split at hl2 <;> omega
      obtain ⟨P, p1, p2, p3, p4⟩ := ih _ hlen.1 hc2 fun x hx => hu x (del_mem.1 (del_mem.1 hx).1).1
      have hne : ∀ x, x ≠ q → pairS (del (2 * q + 1) (del (2 * q) l)) x = pairS l x := fun x hx => by
        unfold pairS
        rw [wt_del, wt_del, wt_del, wt_del, if_neg (show ¬ 2 * x = 2 * q + 1 by omega), if_neg (show ¬ 2 * x = 2 * q by omega), if_neg (show ¬ 2 * x + 1 = 2 * q + 1 by omega), if_neg (show ¬ 2 * x + 1 = 2 * q by omega)]
      have hself : pairS (del (2 * q + 1) (del (2 * q) l)) q = 0 := by
        unfold pairS
        rw [wt_del, wt_del, wt_del, if_neg (show ¬ 2 * q = 2 * q + 1 by omega), if_pos rfl, if_pos rfl]; rfl
      have hnot : q ∉ P := fun h => by have := (p2 q h).2; omega
      refine ⟨q :: P, List.nodup_cons.2 ⟨hnot, p1⟩, ?_, ?_, ?_⟩
      · intro x hx
        rcases List.mem_cons.1 hx with rfl | hx
        · exact ⟨by omega, hpair⟩
        · have := p2 x hx
          rw [hne x (fun e => hnot (by rw [← e]; exact hx))] at this
          exact this
      · simp only [List.length_cons]; omega
      · simp only [sumI]
        rw [sumI_congr (g := pairS (del (2 * q + 1) (del (2 * q) l))) fun x hx => (hne x (fun e => hnot (by rw [← e]; exact hx))).symm]
        omega
    · refine ⟨[], List.nodup_nil, (fun q hq => by cases hq), ?_, sumL_nonneg l hc.cntL⟩
      have hone : ∀ p ∈ l, p.1 = 1 := fun p hp => by
        have h1 := hu p hp
        have h2 : ¬ 2 ≤ p.1 := fun h => hex ⟨p, hp, h⟩
        omega
      match l, hc, hone with
      | [], _, _ => simp
      | [p], _, _ => simp
      | p :: q :: l, hc, hone =>
        have h1 := (List.pairwise_cons.1 hc.rise).1 q (by simp)
        have h2 := hone p (by simp)
        have h3 := hone q (by simp)
        omega
/-- Once nothing is ready there are not many nodes. -/
theorem tight_len {L k : Int} {l : List Nd} (hk : 1 ≤ k) (hc : Canon l) (hu : InU L l) (h : ∀ id, readyB L (sumL l / k) l id = false) : (l.length : Int) ≤ 4 * k - 1 := by
  obtain ⟨P, p1, p2, p3, p4⟩ := parents_all l.length l (Nat.le_refl _) hc fun p hp => (hu p hp).1
  obtain ⟨m, hm⟩ : ∃ m, sumL l / k = m := ⟨_, rfl⟩
  rw [hm] at h
  have hN := sumL_nonneg l hc.cntL
  have hm0 : 0 ≤ m := by rw [← hm]; exact Int.ediv_nonneg hN (by omega)
  have hlt : sumL l < k * (m + 1) := by
    rw [← hm, Int.mul_comm]
    exact Int.lt_ediv_add_one_mul_self _ (by omega)
  have hall : ∀ x ∈ P, m + 1 ≤ pairS l x + wt x l := fun x hx => by
    obtain ⟨x1, x2⟩ := p2 x hx
    have hr := of_decide_eq_false (h x)
    have hx3 : x < pw L := by
      unfold pairS at x2
      have hex : ∃ p ∈ l, p.1 = 2 * x ∨ p.1 = 2 * x + 1 := by
        by_cases e : wt (2 * x) l = 0
        · obtain ⟨p, hp, e2⟩ := mem_wt (show wt (2 * x + 1) l ≠ 0 by omega)
          exact ⟨p, hp, .inr e2⟩
        · obtain ⟨p, hp, e2⟩ := mem_wt e
          exact ⟨p, hp, .inl e2⟩
      obtain ⟨p, hp, e⟩ := hex
      have := (hu p hp).2
      omega
    refine Int.not_lt.1 fun k => hr ⟨x1, hx3, x2, by omega⟩
  have h1 := sumI_ge (m + 1) hall
  rw [sumI_add] at h1
  have h2 := wts_le P l p1 hc.cntL
  have h3 : (P.length : Int) * (m + 1) < (2 * k) * (m + 1) := by
    have : (2 * k) * (m + 1) = 2 * (k * (m + 1)) := Int.mul_assoc _ _ _
    omega
  have h4 : (P.length : Int) < 2 * k := Int.lt_of_mul_lt_mul_right h3 (by omega)
  omega
end StoM
end Go.Proofs.YtfjgpjgphdiliaaGreat

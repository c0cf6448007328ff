/- Part 5 of the proof: texts joined by this repo's tools/merge.py (AgdM). By the prover of this repo. -/
import Derived.Test.YtfjgpjgphdiliaaGreatM4
set_option linter.unusedVariables false
set_option linter.unusedSimpArgs false
/- Plain facts on the agenda of folds: its heap as a list, and what a whole run of folds makes of a store. No program in sight. By the prover of this repo. -/
namespace Go.Proofs.YtfjgpjgphdiliaaGreat
namespace StoM
open TwigM RollM Go.RowKit

/-- Does a node stand ahead of another one? -/
def aheadF (a b : Int) : Bool := if (depthF a).1 = (depthF b).1 then decide (a < b) else decide ((depthF b).1 < (depthF a).1)
def swapL (h : List Int) (i j : Nat) : List Int := (h.set i (h.getD j 0)).set j (h.getD i 0)
/-- What was put last moves up to its place. -/
def upG : Nat → List Int → Nat → List Int
  | 0, h, _ => h
  | f + 1, h, i => if 0 < i ∧ aheadF (h.getD i 0) (h.getD ((i - 1) / 2) 0) = true then upG f (swapL h i ((i - 1) / 2)) ((i - 1) / 2) else h
/-- The first of a place and those behind it. -/
def bestF (h : List Int) (i : Nat) : Nat :=
  (fun f => if 2 * i + 2 < h.length ∧ aheadF (h.getD (2 * i + 2) 0) (h.getD f 0) = true then 2 * i + 2 else f) (if 2 * i + 1 < h.length ∧ aheadF (h.getD (2 * i + 1) 0) (h.getD i 0) = true then 2 * i + 1 else i)
/-- What stands first moves down to its place. -/
def dnG : Nat → List Int → Nat → List Int
  | 0, h, _ => h
  | f + 1, h, i => if bestF h i = i then h else dnG f (swapL h i (bestF h i)) (bestF h i)
def putA (h : List Int) (id : Int) : List Int := if id < 1 ∨ id ∈ h then h else upG h.length (h ++ [id]) h.length
def popA (h : List Int) : List Int := dnG h.length ((h.set 0 (h.getD (h.length - 1) 0)).take (h.length - 1)) 0

theorem swapL_len (h : List Int) (i j : Nat) : (swapL h i j).length = h.length := by unfold swapL; simp
theorem swapL_perm {h : List Int} {i j : Nat} (hi : i < h.length) (hj : j < h.length) : (swapL h i j).Perm h := by
  rw [List.perm_iff_count]
  intro a
  have e1 : h.getD i 0 = h[i] := by rw [List.getD_eq_getElem?_getD, List.getElem?_eq_getElem hi]; rfl
  have e2 : h.getD j 0 = h[j] := by rw [List.getD_eq_getElem?_getD, List.getElem?_eq_getElem hj]; rfl
  have e0 : swapL h i j = (h.set i h[j]).set j h[i] := by unfold swapL; rw [e1, e2]
  have hc1 : h[i] = a → 0 < h.count a := fun e => List.count_pos_iff.2 (e ▸ List.getElem_mem hi)
  have hc2 : h[j] = a → 0 < h.count a := fun e => List.count_pos_iff.2 (e ▸ List.getElem_mem hj)
  rw [e0, List.count_set (by simpa using hj), List.count_set hi]
  by_cases hij : i = j
  · subst hij
    rw [List.getElem_set_self]
    by_cases ha : h[i] = a
    · have := hc1 ha
      simp [ha]
      try omega
    · simp [ha]
  · rw [List.getElem_set_ne (by omega)]
    by_cases ha : h[i] = a
    · have := hc1 ha
      by_cases hb : h[j] = a
      · simp [ha, hb]
        try omega
      · simp [ha, hb]
        try omega
    · by_cases hb : h[j] = a
      · have := hc2 hb
        simp [ha, hb]
        try omega
      · simp [ha, hb]
theorem upG_perm : ∀ (f : Nat) (h : List Int) (i : Nat), i < h.length → (upG f h i).Perm h
  | 0, h, i, _ => List.Perm.refl _
  | f + 1, h, i, hi => by
    rw [upG]
    split
    · exact (upG_perm f _ _ (by rw [swapL_len]; omega)).trans (swapL_perm hi (by omega))
    · exact List.Perm.refl _
theorem bestF_lt (h : List Int) (i : Nat) (hi : i < h.length) : i ≤ bestF h i ∧ bestF h i < h.length := by
  unfold bestF
  simp only []
  by_cases h1 : 2 * i + 1 < h.length ∧ aheadF (h.getD (2 * i + 1) 0) (h.getD i 0) = true
  · rw [if_pos h1]
    split <;> omega
  · rw [if_neg h1]
    split <;> omega
theorem dnG_perm : ∀ (f : Nat) (h : List Int) (i : Nat), i < h.length → (dnG f h i).Perm h
  | 0, h, i, _ => List.Perm.refl _
  | f + 1, h, i, hi => by
    rw [dnG]
    split
    · exact List.Perm.refl _
    · have hb := bestF_lt h i hi
      exact (dnG_perm f _ _ (by rw [swapL_len]; omega)).trans (swapL_perm hi hb.2)
theorem dnG_nil (f i : Nat) : dnG f [] i = [] := by
  induction f generalizing i with
  | zero => rfl
  | succ f ih =>
    rw [dnG]
    split
    · rfl
    · have : swapL [] i (bestF [] i) = [] := by unfold swapL; simp
      rw [this, ih]
theorem putA_mem (h : List Int) (id x : Int) : x ∈ putA h id ↔ x ∈ h ∨ (x = id ∧ 1 ≤ id) := by
  unfold putA
  split
  · rename_i hc
    constructor
    · intro hx; exact .inl hx
    · rintro (hx | ⟨rfl, h1⟩)
      · exact hx
      · rcases hc with hc | hc
        · omega
        · exact hc
  · rename_i hc
    rw [(upG_perm h.length (h ++ [id]) h.length (by simp)).mem_iff, List.mem_append, List.mem_singleton]
    constructor
    · rintro (hx | hx)
      · exact .inl hx
      · exact .inr ⟨hx, by omega⟩
    · rintro (hx | hx)
      · exact .inl hx
      · exact .inr hx.1
theorem putA_nodup {h : List Int} (hn : h.Nodup) (id : Int) : (putA h id).Nodup := by
  unfold putA
  split
  · exact hn
  · rename_i hc
    rw [(upG_perm h.length (h ++ [id]) h.length (by simp)).nodup_iff, List.nodup_append]
    refine ⟨hn, by simp, fun a ha b hb => ?_⟩
    rw [List.mem_singleton] at hb
    subst hb
    exact fun e => hc (.inr (e ▸ ha))
theorem putA_len (h : List Int) (id : Int) : (putA h id).length ≤ h.length + 1 := by
  unfold putA
  split
  · omega
  · rw [(upG_perm h.length (h ++ [id]) h.length (by simp)).length_eq]; simp
theorem popA_perm (x : Int) (T : List Int) : (popA (x :: T)).Perm T := by
  unfold popA
  simp only [List.length_cons, Nat.add_sub_cancel]
  cases hT : T.reverse with
  | nil =>
    have : T = [] := by simpa using hT
    subst this
    rw [show List.take ([] : List Int).length ([x].set 0 ([x].getD ([] : List Int).length 0)) = [] by simp, dnG_nil]
  | cons y R =>
    have e : T = R.reverse ++ [y] := by
      have := congrArg List.reverse hT
      simpa using this
    have hl : T.length = R.length + 1 := by rw [e]; simp
    have e2 : (x :: T).getD T.length 0 = y := by
      rw [List.getD_eq_getElem?_getD, hl, List.getElem?_cons_succ, e]
      simp
    have e3 : ((x :: T).set 0 y).take T.length = y :: R.reverse := by
      rw [List.set_cons_zero, hl, List.take_succ_cons, e]
      simp
    rw [e2, e3]
    refine (dnG_perm _ _ _ (by simp)).trans ?_
    rw [e]
    exact List.perm_append_comm (l₁ := [y])
/-- What is put, one behind the other. -/
def putsA (h : List Int) (l : List Int) : List Int := l.foldl putA h
theorem putsA_mem (x : Int) : ∀ (l h : List Int), x ∈ putsA h l ↔ x ∈ h ∨ (x ∈ l ∧ 1 ≤ x)
  | [], h => by simp [putsA]
  | y :: l, h => by
    show x ∈ putsA (putA h y) l ↔ _
    rw [putsA_mem x l, putA_mem, List.mem_cons]
    constructor
    · rintro ((h1 | ⟨rfl, h2⟩) | h1)
      · exact .inl h1
      · exact .inr ⟨.inl rfl, h2⟩
      · exact .inr ⟨.inr h1.1, h1.2⟩
    · rintro (h1 | ⟨rfl | h1, h2⟩)
      · exact .inl (.inl h1)
      · exact .inl (.inr ⟨rfl, h2⟩)
      · exact .inr ⟨h1, h2⟩
theorem putsA_nodup : ∀ (l h : List Int), h.Nodup → (putsA h l).Nodup
  | [], _, hn => hn
  | y :: l, h, hn => putsA_nodup l _ (putA_nodup hn y)
theorem putsA_len : ∀ (l h : List Int), (putsA h l).length ≤ h.length + l.length
  | [], h => by simp [putsA]
  | y :: l, h => by
    have h1 := putsA_len l (putA h y)
    have h2 := putA_len h y
    show (putsA (putA h y) l).length ≤ _
    rw [List.length_cons]; omega
/-- All of a heap, in their order. -/
def popsA : Nat → List Int → List Int
  | 0, _ => []
  | _ + 1, [] => []
  | f + 1, x :: T => x :: popsA f (popA (x :: T))
theorem popsA_perm : ∀ (f : Nat) (h : List Int), h.length ≤ f → (popsA f h).Perm h
  | 0, h, hl => by obtain rfl := List.eq_nil_of_length_eq_zero (by omega : h.length = 0); exact List.Perm.refl _
  | f + 1, [], _ => List.Perm.refl _
  | f + 1, x :: T, hl => by
    have hp := popA_perm x T
    have := popsA_perm f (popA (x :: T)) (by rw [hp.length_eq]; simp at hl; omega)
    exact (this.trans hp).cons x
/-- The parents of all nodes, in the order of folding. -/
def parF (l : List Nd) : List Int := popsA (putsA [] (l.map fun p => p.1 / 2)).length (putsA [] (l.map fun p => p.1 / 2))
def startF (l : List Nd) : List Int := putsA [] (parF l)
theorem parF_mem (l : List Nd) (x : Int) : x ∈ parF l ↔ (∃ p ∈ l, p.1 / 2 = x) ∧ 1 ≤ x := by
  unfold parF
  rw [(popsA_perm _ _ (Nat.le_refl _)).mem_iff, putsA_mem]
  simp
theorem parF_len (l : List Nd) : (parF l).length ≤ l.length := by
  unfold parF
  rw [(popsA_perm _ _ (Nat.le_refl _)).length_eq]
  have := putsA_len (l.map fun p => p.1 / 2) []
  simpa using this
theorem startF_mem (l : List Nd) (x : Int) : x ∈ startF l ↔ (∃ p ∈ l, p.1 / 2 = x) ∧ 1 ≤ x := by
  unfold startF
  rw [putsA_mem, parF_mem]
  simp only [List.not_mem_nil, false_or]
  constructor
  · intro h; exact h.1
  · intro h; exact ⟨h, h.2⟩
theorem startF_nodup (l : List Nd) : (startF l).Nodup := putsA_nodup _ _ List.nodup_nil
theorem startF_len (l : List Nd) : (startF l).length ≤ l.length := by
  have h1 := putsA_len (parF l) []
  have h2 := parF_len l
  unfold startF
  simp at h1; omega
/-- The agenda behind a fold. -/
def nextA (h : List Int) (x : Int) : List Int := putA (putA (putA h (2 * x)) (2 * x + 1)) (x / 2)
theorem nextA_mem (h : List Int) (x y : Int) (hx : 1 ≤ x) : y ∈ nextA h x ↔ y ∈ h ∨ y = 2 * x ∨ y = 2 * x + 1 ∨ (y = x / 2 ∧ 1 ≤ y) := by
  unfold nextA
  rw [putA_mem, putA_mem, putA_mem]
  constructor
  · rintro (((h | h) | h) | h)
    · exact .inl h
    · exact .inr (.inl h.1)
    · exact .inr (.inr (.inl h.1))
    · exact .inr (.inr (.inr ⟨h.1, by omega⟩))
  · rintro (h | h | h | h)
    · exact .inl (.inl (.inl h))
    · exact .inl (.inl (.inr ⟨h, by omega⟩))
    · exact .inl (.inr ⟨h, by omega⟩)
    · exact .inr ⟨h.1, by omega⟩
theorem nextA_nodup {h : List Int} (hn : h.Nodup) (x : Int) : (nextA h x).Nodup := putA_nodup (putA_nodup (putA_nodup hn _) _) _
theorem nextA_len (h : List Int) (x : Int) : (nextA h x).length ≤ h.length + 3 := by
  unfold nextA
  have h1 := putA_len h (2 * x)
  have h2 := putA_len (putA h (2 * x)) (2 * x + 1)
  have h3 := putA_len (putA (putA h (2 * x)) (2 * x + 1)) (x / 2)
  omega
/-- A run of folds: the nodes then, and how often. -/
def runF (L m : Int) : Nat → List Nd → List Int → List Nd × Nat
  | 0, l, _ => (l, 0)
  | _ + 1, l, [] => (l, 0)
  | f + 1, l, x :: T => if readyB L m l x = true then ((runF L m f (foldAt x l) (nextA (popA (x :: T)) x)).1, (runF L m f (foldAt x l) (nextA (popA (x :: T)) x)).2 + 1) else runF L m f l (popA (x :: T))
/-- How long a run may be. -/
def meas (l : List Nd) (h : List Int) : Nat := 4 * (pot l).toNat + h.length
theorem ready_iff {L m : Int} {l : List Nd} {id : Int} : readyB L m l id = true ↔ 1 ≤ id ∧ id < pw L ∧ 0 < pairS l id ∧ pairS l id + wt id l ≤ m := by unfold readyB; rw [decide_eq_true_eq]
/-- What all of a run keeps. -/
structure Kept (L m : Int) (l0 l : List Nd) : Prop where
  canon : Canon l
  inU : InU L l
  sum : sumL l = sumL l0
  low : ∀ y, lowS L y l ≤ lowS L y l0
  high : ∀ y, highS L y l0 ≤ highS L y l
  light : LightW L m l0 → LightW L m l
  len : l.length ≤ l0.length + 1
theorem len_fold {l : List Nd} (hc : Canon l) {x : Int} (h1 : 1 ≤ x) (hp : 0 < pairS l x) : (foldAt x l).length ≤ l.length := by
  have hc1 := canon_del hc (2 * x)
  have hc2 := canon_del hc1 (2 * x + 1)
  have h1' := len_del hc (2 * x)
  have h2' := len_del hc1 (2 * x + 1)
  rw [wt_del, if_neg (show ¬ 2 * x + 1 = 2 * x by omega)] at h2'
  have h3 := len_put hc2 x (pairS l x)
  have hpos : 0 < l.length := by
    unfold pairS at hp
    by_cases e : wt (2 * x) l = 0
    · obtain ⟨p, hp, _⟩ := mem_wt (show wt (2 * x + 1) l ≠ 0 by omega)
      exact List.length_pos_of_mem hp
    · obtain ⟨p, hp, _⟩ := mem_wt e
      exact List.length_pos_of_mem hp
  have hsome : (del (2 * x + 1) (del (2 * x) l)).length + 1 ≤ l.length := by
    by_cases e : wt (2 * x) l = 0
    · have e2 : wt (2 * x + 1) l ≠ 0 := by unfold pairS at hp; omega
      rw [if_pos e] at h1'
      rw [if_neg e2] at h2'
      omega
    · rw [if_neg e] at h1'
      have := del_len (2 * x + 1) (del (2 * x) l)
      omega
  unfold foldAt
  rw [h3]
  split <;> omega
theorem Kept.refl {L m : Int} {l : List Nd} (hc : Canon l) (hu : InU L l) : Kept L m l l := ⟨hc, hu, rfl, fun _ => Int.le_refl _, fun _ => Int.le_refl _, id, by omega⟩
theorem Kept.trans {L m : Int} {a b c : List Nd} (h : Kept L m a b) (k : Kept L m b c) (hl : c.length ≤ a.length + 1) : Kept L m a c :=
  ⟨k.canon, k.inU, k.sum.trans h.sum, fun y => Int.le_trans (k.low y) (h.low y), fun y => Int.le_trans (h.high y) (k.high y), fun x => k.light (h.light x), hl⟩
theorem fold_kept {L m : Int} {l : List Nd} (hL : 1 ≤ L) (hc : Canon l) (hu : InU L l) {x : Int} (hr : readyB L m l x = true) : Kept L m l (foldAt x l) := by
  obtain ⟨h1, h2, h3, h4⟩ := ready_iff.1 hr
  have hw := wt_nonneg x l hc.cntL
  exact ⟨canon_fold hc h3, inU_fold hu h1 (by have := pw_pos L; omega), sumL_fold, fun y => low_fold y hc.cntL h1 hL h2, fun y => high_fold y hc.cntL h1 hL h2, fun h => light_fold h h1 (by omega) h4, by have := len_fold hc h1 h3; omega⟩
theorem meas_fold {L m : Int} {l : List Nd} (hL : 1 ≤ L) (hc : Canon l) (hu : InU L l) {x : Int} {T : List Int} (hr : readyB L m l x = true) : meas (foldAt x l) (nextA (popA (x :: T)) x) < meas l (x :: T) := by
  obtain ⟨h1, h2, h3, h4⟩ := ready_iff.1 hr
  have k := fold_kept (m := m) hL hc hu hr
  have h5 := pot_fold hc h1 hL h2 h3
  have h6 := pot_nonneg (foldAt x l)
  have h7 := nextA_len (popA (x :: T)) x
  rw [(popA_perm x T).length_eq] at h7
  unfold meas
  simp only [List.length_cons]
  omega
theorem meas_le {L : Int} {l : List Nd} (hL0 : 0 ≤ L) (hL : L ≤ 48) (hu : InU L l) : meas l (startF l) ≤ 193 * l.length := by
  have h1 := pot_le hL0 hL hu
  have h2 := startF_len l
  unfold meas
  omega
theorem meas_pop {l : List Nd} {x : Int} {T : List Int} : meas l (popA (x :: T)) < meas l (x :: T) := by
  unfold meas
  rw [(popA_perm x T).length_eq]
  simp
/-- A fold turns readiness of few others. -/
theorem ready_fold {L m : Int} {l : List Nd} (hc : Cnt l) {x y : Int} (hr : readyB L m l x = true) (hy : readyB L m (foldAt x l) y = true) : readyB L m l y = true ∨ y = 2 * x ∨ y = 2 * x + 1 ∨ y = x / 2 := by
  obtain ⟨h1, h2, h3, h4⟩ := ready_iff.1 hr
  obtain ⟨y1, y2, y3, y4⟩ := ready_iff.1 hy
  by_cases e1 : y = 2 * x
  · exact .inr (.inl e1)
  by_cases e2 : y = 2 * x + 1
  · exact .inr (.inr (.inl e2))
  by_cases e3 : y = x / 2
  · exact .inr (.inr (.inr e3))
  have w1 := wt_fold (2 * y) x l h1
  have w2 := wt_fold (2 * y + 1) x l h1
  have w3 := wt_fold y x l h1
  rw [if_neg (show ¬ 2 * y = x by omega)] at w1
  rw [if_neg (show ¬ 2 * y + 1 = x by omega)] at w2
  by_cases e4 : y = x
  · subst e4
    rw [if_pos (Or.inl rfl)] at w1
    rw [if_pos (Or.inr rfl)] at w2
    unfold pairS at y3
    omega
  · rw [if_neg (show ¬ (2 * y = 2 * x ∨ 2 * y = 2 * x + 1) by omega)] at w1
    rw [if_neg (show ¬ (2 * y + 1 = 2 * x ∨ 2 * y + 1 = 2 * x + 1) by omega)] at w2
    rw [if_neg e4, if_neg (show ¬ (y = 2 * x ∨ y = 2 * x + 1) by omega)] at w3
    refine .inl (ready_iff.2 ⟨y1, y2, ?_, ?_⟩)
    · unfold pairS at y3 ⊢; omega
    · unfold pairS at y4 ⊢; omega
/-- A whole run: what it keeps; and nothing is ready then. -/
theorem run_all (L m : Int) (hL : 1 ≤ L) : ∀ (f : Nat) (l : List Nd) (h : List Int), meas l h ≤ f → Canon l → InU L l → (∀ y, readyB L m l y = true → y ∈ h) →
    Kept L m l (runF L m f l h).1 ∧ (runF L m f l h).1.length ≤ l.length ∧ ∀ y, readyB L m (runF L m f l h).1 y = false
  | 0, l, h, hf, hc, hu, hr => by
    obtain rfl := List.eq_nil_of_length_eq_zero (show h.length = 0 by unfold meas at hf; omega)
    refine ⟨Kept.refl hc hu, Nat.le_refl _, fun y => Bool.eq_false_iff.2 fun k => ?_⟩
    cases hr y k
  | f + 1, l, [], hf, hc, hu, hr => by
    refine ⟨Kept.refl hc hu, Nat.le_refl _, fun y => Bool.eq_false_iff.2 fun k => ?_⟩
    cases hr y k
  | f + 1, l, x :: T, hf, hc, hu, hr => by
    rw [runF]
    split
    · rename_i hx
      have k := fold_kept hL hc hu hx
      have hm := meas_fold (T := T) hL hc hu hx
      have hlen := len_fold hc (ready_iff.1 hx).1 (ready_iff.1 hx).2.2.1
      have hx1 := (ready_iff.1 hx).1
      obtain ⟨i1, i2, i3⟩ := run_all L m hL f (foldAt x l) (nextA (popA (x :: T)) x) (by omega) k.canon k.inU fun y hy => by
        rw [nextA_mem _ _ _ hx1, (popA_perm x T).mem_iff]
        have hy1 := (ready_iff.1 hy).1
        rcases ready_fold hc.cntL hx hy with h | h | h | h
        · rcases List.mem_cons.1 (hr y h) with e | e
          · exfalso
            subst e
            have hy3 := (ready_iff.1 hy).2.2.1
            have w1 := wt_fold (2 * y) y l hx1
            have w2 := wt_fold (2 * y + 1) y l hx1
            rw [if_neg (show ¬ 2 * y = y by omega), if_pos (Or.inl rfl)] at w1
            rw [if_neg (show ¬ 2 * y + 1 = y by omega), if_pos (Or.inr rfl)] at w2
            unfold pairS at hy3
            omega
          · exact .inl e
        · exact .inr (.inl h)
        · exact .inr (.inr (.inl h))
        · exact .inr (.inr (.inr ⟨h, hy1⟩))
      exact ⟨k.trans i1 (Nat.le_trans i2 (by omega)), Nat.le_trans i2 hlen, i3⟩
    · rename_i hx
      have hm := meas_pop (l := l) (x := x) (T := T)
      obtain ⟨i1, i2, i3⟩ := run_all L m hL f l (popA (x :: T)) (by omega) hc hu fun y hy => by
        rw [(popA_perm x T).mem_iff]
        rcases List.mem_cons.1 (hr y hy) with e | e
        · subst e; exact absurd hy hx
        · exact e
      exact ⟨i1, i2, i3⟩
/-- A store, folded for a k. -/
def pressF (L K : Int) (l : List Nd) : List Nd × Nat := runF L (sumL l / K) (meas l (startF l)) l (startF l)
theorem press_all {L K : Int} {l : List Nd} (hL : 1 ≤ L) (hK : 1 ≤ K) (hc : Canon l) (hu : InU L l) :
    Kept L (sumL l / K) l (pressF L K l).1 ∧ (pressF L K l).1.length ≤ l.length ∧ ((pressF L K l).1.length : Int) ≤ 4 * K - 1 := by
  obtain ⟨h1, h2, h3⟩ := run_all L (sumL l / K) hL (meas l (startF l)) l (startF l) (Nat.le_refl _) hc hu fun y hy => by
    obtain ⟨y1, y2, y3, y4⟩ := ready_iff.1 hy
    rw [startF_mem]
    refine ⟨?_, y1⟩
    unfold pairS at y3
    by_cases e : wt (2 * y) l = 0
    · obtain ⟨p, hp, e2⟩ := mem_wt (show wt (2 * y + 1) l ≠ 0 by omega)
      exact ⟨p, hp, by omega⟩
    · obtain ⟨p, hp, e2⟩ := mem_wt e
      exact ⟨p, hp, by omega⟩
  refine ⟨h1, h2, ?_⟩
  have hs := h1.sum
  refine tight_len hK h1.canon h1.inU fun id => ?_
  show readyB L (sumL (pressF L K l).1 / K) (pressF L K l).1 id = false
  have e : sumL (pressF L K l).1 = sumL l := hs
  rw [e]
  exact h3 id
end StoM
end Go.Proofs.YtfjgpjgphdiliaaGreat

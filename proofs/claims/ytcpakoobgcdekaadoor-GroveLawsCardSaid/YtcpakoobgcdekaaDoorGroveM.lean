/- Trees that are told by parents: ways up. Plain facts. By the prover of this repo. -/
import Derived.RowKit
namespace Go.Proofs.YtcpakoobgcdekaaDoor

/-- The way up from a sensor, in at most so many steps. -/
def upF (p : List Int) : Nat → Int → Option (List Int)
  | 0, _ => none
  | m + 1, i => if p.getD i.toNat 0 = -1 then some [i] else if p.getD i.toNat 0 < 0 ∨ (p.length : Int) ≤ p.getD i.toNat 0 then none else (upF p m (p.getD i.toNat 0)).map (i :: ·)
theorem upF_succ (p : List Int) (m : Nat) (i : Int) : upF p (m + 1) i = if p.getD i.toNat 0 = -1 then some [i] else if p.getD i.toNat 0 < 0 ∨ (p.length : Int) ≤ p.getD i.toNat 0 then none else (upF p m (p.getD i.toNat 0)).map (i :: ·) := rfl
theorem upF_mono {p : List Int} : ∀ {m : Nat} {i : Int} {w : List Int}, upF p m i = some w → upF p (m + 1) i = some w
  | 0, i, w, h => by cases h
  | m + 1, i, w, h => by
    rw [upF_succ] at h ⊢
    by_cases h1 : p.getD i.toNat 0 = -1
    · rw [if_pos h1] at h ⊢; exact h
    · rw [if_neg h1] at h ⊢
      by_cases h2 : p.getD i.toNat 0 < 0 ∨ (p.length : Int) ≤ p.getD i.toNat 0
      · rw [if_pos h2] at h; cases h
      · rw [if_neg h2] at h ⊢
        obtain ⟨v, hv, rfl⟩ := Option.map_eq_some_iff.1 h
        rw [upF_mono hv]; rfl
theorem upF_le {p : List Int} {m m' : Nat} {i : Int} {w : List Int} (h : upF p m i = some w) (hm : m ≤ m') : upF p m' i = some w := by
  obtain ⟨d, rfl⟩ := Nat.exists_eq_add_of_le hm
  clear hm
  induction d with
  | zero => exact h
  | succ d ih => exact upF_mono ih
theorem upF_length {p : List Int} : ∀ {m : Nat} {i : Int} {w : List Int}, upF p m i = some w → upF p w.length i = some w ∧ 1 ≤ w.length ∧ w.length ≤ m ∧ w.head? = some i
  | 0, i, w, h => by cases h
  | m + 1, i, w, h => by
    rw [upF_succ] at h
    by_cases h1 : p.getD i.toNat 0 = -1
    · rw [if_pos h1] at h
      cases h
      refine ⟨?_, by simp, by simp, rfl⟩
      show upF p 1 i = _
      rw [upF_succ, if_pos h1]
    · rw [if_neg h1] at h
      by_cases h2 : p.getD i.toNat 0 < 0 ∨ (p.length : Int) ≤ p.getD i.toNat 0
      · rw [if_pos h2] at h; cases h
      · rw [if_neg h2] at h
        obtain ⟨v, hv, rfl⟩ := Option.map_eq_some_iff.1 h
        obtain ⟨a1, a2, a3, a4⟩ := upF_length hv
        refine ⟨?_, by simp, by simp; omega, rfl⟩
        show upF p (v.length + 1) i = _
        rw [upF_succ, if_neg h1, if_neg h2, a1]; rfl
/-- Every sensor on a way has its own way: the rest. -/
theorem upF_mem {p : List Int} : ∀ {m : Nat} {i : Int} {w : List Int} {x : Int}, upF p m i = some w → x ∈ w → ∃ v, upF p m x = some v ∧ v.length ≤ w.length ∧ (x = i ∨ v.length < w.length)
  | 0, i, w, x, h, _ => by cases h
  | m + 1, i, w, x, h, hx => by
    have h0 := h
    rw [upF_succ] at h
    by_cases h1 : p.getD i.toNat 0 = -1
    · rw [if_pos h1] at h
      cases h
      obtain rfl : x = i := by simpa using hx
      exact ⟨_, h0, Nat.le_refl _, .inl rfl⟩
    · rw [if_neg h1] at h
      by_cases h2 : p.getD i.toNat 0 < 0 ∨ (p.length : Int) ≤ p.getD i.toNat 0
      · rw [if_pos h2] at h; cases h
      · rw [if_neg h2] at h
        obtain ⟨v, hv, rfl⟩ := Option.map_eq_some_iff.1 h
        rcases List.mem_cons.1 hx with rfl | hx
        · exact ⟨_, h0, Nat.le_refl _, .inl rfl⟩
        · obtain ⟨u, hu, hl, _⟩ := upF_mem hv hx
          exact ⟨u, upF_mono hu, by simp; omega, .inr (by simp; omega)⟩
theorem upF_nodup {p : List Int} : ∀ {m : Nat} {i : Int} {w : List Int}, upF p m i = some w → w.Nodup
  | 0, i, w, h => by cases h
  | m + 1, i, w, h => by
    have h0 := h
    rw [upF_succ] at h
    by_cases h1 : p.getD i.toNat 0 = -1
    · rw [if_pos h1] at h; cases h; simp
    · rw [if_neg h1] at h
      by_cases h2 : p.getD i.toNat 0 < 0 ∨ (p.length : Int) ≤ p.getD i.toNat 0
      · rw [if_pos h2] at h; cases h
      · rw [if_neg h2] at h
        obtain ⟨v, hv, rfl⟩ := Option.map_eq_some_iff.1 h
        refine List.nodup_cons.2 ⟨fun hi => ?_, upF_nodup hv⟩
        obtain ⟨u, hu, hl, _⟩ := upF_mem hv hi
        have := upF_mono hu
        rw [h0] at this
        have e := Option.some.inj this
        rw [← e] at hl
        simp at hl
        omega
theorem upF_bd {p : List Int} : ∀ {m : Nat} {i : Int} {w : List Int}, 0 ≤ i → i < p.length → upF p m i = some w → ∀ x ∈ w, 0 ≤ x ∧ x < p.length
  | 0, i, w, _, _, h, _, _ => by cases h
  | m + 1, i, w, h0, h9, h, x, hx => by
    rw [upF_succ] at h
    by_cases h1 : p.getD i.toNat 0 = -1
    · rw [if_pos h1] at h; cases h
      obtain rfl : x = i := by simpa using hx
      exact ⟨h0, h9⟩
    · rw [if_neg h1] at h
      by_cases h2 : p.getD i.toNat 0 < 0 ∨ (p.length : Int) ≤ p.getD i.toNat 0
      · rw [if_pos h2] at h; cases h
      · rw [if_neg h2] at h
        obtain ⟨v, hv, rfl⟩ := Option.map_eq_some_iff.1 h
        rcases List.mem_cons.1 hx with rfl | hx
        · exact ⟨h0, h9⟩
        · exact upF_bd (by omega) (by omega) hv x hx
/-- Numbers apart from one another below n: at most n. -/
theorem nodup_le : ∀ (n : Nat) (l : List Int), l.Nodup → (∀ x ∈ l, 0 ≤ x ∧ x < (n : Int)) → l.length ≤ n
  | 0, l, _, h => by
    cases l with
    | nil => simp
    | cons a l => have := h a (by simp); omega
  | n + 1, l, hd, h => by
    by_cases hn : (n : Int) ∈ l
    · have h1 := nodup_le n (l.erase (n : Int)) (hd.erase _) (fun x hx => by
        have a := h x (List.mem_of_mem_erase hx)
        have b : x ≠ (n : Int) := fun e => by subst e; exact (List.Nodup.not_mem_erase hd) hx
        omega)
      rw [List.length_erase_of_mem hn] at h1
      omega
    · have h1 := nodup_le n l hd (fun x hx => by
        have a := h x hx
        have b : x ≠ (n : Int) := fun e => by subst e; exact hn hx
        omega)
      omega
/-- So many steps as there are sensors do, or 48. -/
theorem upF_48 {p : List Int} (hn : p.length ≤ 48) {i : Int} (h0 : 0 ≤ i) (h9 : i < p.length) : upF p p.length i = upF p 48 i := by
  cases h : upF p 48 i with
  | some w =>
    have hl := nodup_le p.length w (upF_nodup h) (upF_bd h0 h9 h)
    exact upF_le (upF_length h).1 hl
  | none =>
    cases h2 : upF p p.length i with
    | none => rfl
    | some w => rw [upF_le h2 hn] at h; cases h

/-- Whether parents are a tree. -/
def rootsF (p : List Int) : Nat := (p.filter fun x => x == -1).length
def okG (p : List Int) (k : Nat) : Bool := (List.range k).all fun i => (upF p 48 (i : Int)).isSome
def rightF (p : List Int) : Bool := decide (1 ≤ p.length ∧ p.length ≤ 48) && okG p p.length && decide (rootsF p = 1)
theorem okG_succ (p : List Int) (k : Nat) : okG p (k + 1) = (okG p k && (upF p 48 (k : Int)).isSome) := by unfold okG; rw [List.range_succ, List.all_append]; simp
theorem okG_false {p : List Int} {k m : Nat} (h : okG p k = false) (hm : k ≤ m) : okG p m = false := by
  unfold okG at *
  rw [List.all_eq_false] at *
  obtain ⟨x, hx, h⟩ := h
  exact ⟨x, by simp at *; omega, h⟩
def rootG (p : List Int) (k : Nat) : Nat := ((p.take k).filter fun x => x == -1).length
theorem rootG_succ (p : List Int) (k : Nat) (h : k < p.length) : rootG p (k + 1) = rootG p k + if p.getD k 0 = -1 then 1 else 0 := by
  unfold rootG
  rw [List.take_succ_eq_append_getElem h, List.filter_append, List.length_append]
  have e : p.getD k 0 = p[k] := by simp [h]
  rw [e]
  by_cases h1 : p[k] = -1
  · simp [h1]
  · simp [h1]
theorem rootG_all (p : List Int) : rootG p p.length = rootsF p := by unfold rootG rootsF; rw [List.take_length]
theorem rootG_le (p : List Int) (k : Nat) : rootG p k ≤ k := by
  unfold rootG
  exact Nat.le_trans (List.length_filter_le _ _) (by rw [List.length_take]; omega)
end Go.Proofs.YtcpakoobgcdekaaDoor

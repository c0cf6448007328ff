/- What the law VaryBack wants of the walks' answers, as facts. By the prover of this repo. -/
import Derived.Test.YtclndbaafibaiaaVaryB
import Derived.Test.YtclndbaafibaiaaVaryH
namespace Go.Proofs.Ytclndbaafibaiaa
open Go.RowKit
open VaryM

/-- The one before the i-th of a list; a number before the first. -/
def prevL (last : Int) (L : List Int) : Nat → Int | 0 => last | j + 1 => L.getD j 0
theorem lastF_list (L : List Int) (i : Nat) : lastF (fun i => L.getD i 0) i = prevL 0 L i := by cases i <;> rfl
theorem prev_cons (last x : Int) (L : List Int) (j : Nat) : prevL last (x :: L) (j + 1) = prevL x L j := by cases j <;> simp [prevL]

theorem rises_iff : ∀ (L : List Int) (last : Int), Rises last L ↔ ∀ i, i < L.length → prevL last L i < L.getD i 0
  | [], _ => by simp [Rises]
  | x :: L, last => by
    rw [Rises, rises_iff L x]
    constructor
    · rintro ⟨h1, h2⟩ i hi
      cases i with
      | zero => simpa [prevL] using h1
      | succ j =>
        rw [prev_cons]
        have := h2 j (by simpa using hi)
        simpa using this
    · intro h
      refine ⟨by simpa [prevL] using h 0 (by simp), fun j hj => ?_⟩
      have := h (j + 1) (by simpa using hj)
      rw [prev_cons] at this
      simpa using this
theorem rise_map : ∀ (L : List Int) (last : Int), (List.range L.length).map (fun i => L.getD i 0 - prevL last L i) = rise last L
  | [], _ => rfl
  | x :: L, last => by
    rw [List.length_cons, List.range_succ_eq_map, List.map_cons, List.map_map, rise, ← rise_map L x]
    congr 1
    apply List.map_congr_left
    intro i _
    show (x :: L).getD (i + 1) 0 - prevL last (x :: L) (i + 1) = _
    rw [prev_cons]
    simp

theorem encs_rise (L : List Int) : encs (gapF fun i => L.getD i 0) L.length = encL (rise 0 L) := by
  rw [encs_list, ← rise_map L 0]
  congr 1

theorem risF_list {L : List Int} (h : Rises 0 L) : risF (fun i => L.getD i 0) L.length = (⟨(enc L.length ++ encL (rise 0 L)).toArray⟩, 0) := by
  rw [risF_all (fun i hi => by rw [lastF_list]; exact (rises_iff L 0).1 h i hi)]
  unfold risT
  rw [encs_rise]
theorem risF_list_no {L : List Int} (h : ¬ Rises 0 L) : risF (fun i => L.getD i 0) L.length = (⟨#[]⟩, 10) := by
  unfold risF
  refine if_neg fun h2 => h ((rises_iff L 0).2 fun i hi => ?_)
  have := h2 i hi
  rwa [lastF_list] at this

theorem encL_len : ∀ (L : List Int), (∀ x ∈ L, x ≤ 9223372036854775807) → (encL L).length ≤ 9 * L.length
  | [], _ => by simp [encL]
  | x :: L, h => by
    have h1 := h x (by simp)
    have h2 := enc_len9 (n := x.toNat) (by omega)
    have h3 := encL_len L (fun y hy => h y (by simp [hy]))
    have e : encL (x :: L) = enc x.toNat ++ encL L := by simp [encL]
    rw [e, List.length_append, List.length_cons]
    omega
theorem rise_le : ∀ (L : List Int) (last : Int), 0 ≤ last → Rises last L → (∀ x ∈ L, x ≤ 9223372036854775807) → ∀ y ∈ rise last L, y ≤ 9223372036854775807
  | [], _, _, _, _ => by simp [rise]
  | x :: L, last, h0, hr, h => by
    intro y hy
    have h1 := h x (by simp)
    rcases List.mem_cons.1 hy with rfl | hy
    · omega
    · exact rise_le L x (by have := hr.1; omega) hr.2 (fun z hz => h z (by simp [hz])) y hy

/-- What Put answers, and what All makes of it. -/
theorem put_case (z : List Int) (hz : ∀ x ∈ z, x ≤ 9223372036854775807) (hn : z.length ≤ 200) :
    putF (fun i => z.getD i 0) z.length = (⟨#[]⟩, 2) ∨ ∃ t : ByteArray, putF (fun i => z.getD i 0) z.length = (t, 0) ∧ t.size ≤ 100000 ∧ all t.data.toList = (z, 0) := by
  have hle : ∀ i, i < z.length → z.getD i 0 ≤ 9223372036854775807 := fun i hi => by simp [hi]; exact hz _ (List.getElem_mem hi)
  by_cases h : ∀ i, i < z.length → 0 ≤ z.getD i 0
  · refine .inr ⟨_, putF_all h, ?_, ?_⟩
    · have := encs_len (f := fun i => z.getD i 0) z.length hle
      rw [encsStr_size]; omega
    · show all (encs _ _) = _
      rw [all_encs (fun i hi => ⟨h i hi, hle i hi⟩)]
      have := range_getD z 0 (id : Int → Int)
      simpa using this
  · exact .inl (if_neg h)
/-- What Rises answers, and what Falls makes of it, whatever stands behind. -/
theorem rises_case (z : List Int) (s : ByteArray) (hz : ∀ x ∈ z, x ≤ 9223372036854775807) (hn : z.length ≤ 200) (hs : s.size ≤ 1000) :
    risF (fun i => z.getD i 0) z.length = (⟨#[]⟩, 10) ∨ ∃ t : ByteArray, risF (fun i => z.getD i 0) z.length = (t, 0) ∧ t.size ≤ 10000 ∧ fall (t ++ s).data.toList (z.length : Int) = (z, (t.size : Int), 0) := by
  by_cases h : Rises 0 z
  · refine .inr ⟨_, risF_list h, ?_, ?_⟩
    · show (enc z.length ++ encL (rise 0 z)).length ≤ _
      have h1 := enc_len9 (n := z.length) (by omega)
      have h2 := encL_len _ (rise_le z 0 (by omega) h hz)
      rw [rise_len] at h2
      rw [List.length_append]
      omega
    · have := fall_rise s.data.toList (by omega) h hz
      have e : (((⟨(enc z.length ++ encL (rise 0 z)).toArray⟩ : ByteArray) ++ s).data.toList) = enc z.length ++ encL (rise 0 z) ++ s.data.toList := by simp
      rw [e]
      exact this
  · exact .inl (risF_list_no h)
/-- What is read begins a text just so. -/
theorem get_case (s : ByteArray) (n sz : Nat) (h : get s.data.toList = (n, sz, 0)) : sz = (enc n).length ∧ s.extract 0 sz = encStr n := by
  obtain ⟨h1, h2⟩ := get_back h
  refine ⟨h1, str_ext ?_⟩
  rw [extract_take, h2]
  rfl
theorem falls_case (s : ByteArray) (L : List Int) (z : Int) (h : fall s.data.toList 1000 = (L, z, 0)) :
    ∃ t : ByteArray, risF (fun i => L.getD i 0) L.length = (t, 0) ∧ z = (t.size : Int) ∧ s.extract 0 t.size = t ∧ t.size ≤ s.size ∧ ∀ x ∈ L, x ≤ 9223372036854775807 := by
  obtain ⟨h1, h2, h3, h4, h5⟩ := fall_back h
  refine ⟨_, risF_list h1, h3, str_ext ?_, ?_, h2⟩
  · rw [extract_take]; exact h4
  · show (enc L.length ++ encL (rise 0 L)).length ≤ _
    rw [list_size] at h5
    exact h5
end Go.Proofs.Ytclndbaafibaiaa

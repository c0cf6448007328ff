/- How the reference tells a set's text, and how it reads one: plain facts. By the prover of this repo. -/
import Derived.Test.YtlnbglpddpgooaaDoorReadP
namespace Go.Proofs.YtlnbglpddpgooaaDoor

/-- Rows with commas between. -/
def jn (R : List ByteArray) : ByteArray := ⟨(Lib.join (R.map (·.data.toList)) [44]).toArray⟩
theorem jn_nil : jn [] = ⟨#[]⟩ := rfl
theorem jn_one (x : ByteArray) : jn [x] = x := by
  unfold jn
  rw [List.map_cons, List.map_nil, Lib.join_one]
theorem jn_snoc (R : List ByteArray) (x : ByteArray) (h : R ≠ []) : jn (R ++ [x]) = (jn R ++ ⟨#[44]⟩) ++ x := by
  cases R with
  | nil => exact absurd rfl h
  | cons r R =>
    apply str_ext
    unfold jn
    rw [List.cons_append, List.map_cons, Lib.join_cons, List.map_cons, Lib.join_cons]
    simp [Lib.joinTail, ByteArray.data_append]
theorem jn_ne (R : List ByteArray) (h : R ≠ []) (hr : ∀ r ∈ R, r ≠ ⟨#[]⟩) : jn R ≠ ⟨#[]⟩ := fun e => by
  cases R with
  | nil => exact absurd rfl h
  | cons r R =>
    have h1 := congrArg (fun b : ByteArray => b.data.toList) e
    unfold jn at h1
    rw [List.map_cons, Lib.join_cons] at h1
    simp only [List.append_eq_nil_iff] at h1
    exact hr r (by simp) (str_ext (by simpa using h1.1))
theorem jn_size (R : List ByteArray) (h : ∀ r ∈ R, r.size ≤ 5) : (jn R).size ≤ 6 * R.length := by
  have := join_len R h
  unfold jn
  rw [← len_size']
  simpa using this
  where len_size' : ∀ {s : ByteArray}, s.data.toList.length = s.size := by intro s; simp

theorem bitsL_sorted (s : Nat) : (bitsL s).Pairwise (· < ·) := by
  unfold bitsL
  exact List.pairwise_lt_range.filter _
section
variable {s : Nat} {k : Nat}
theorem bit_at (hk : k < (bitsL s).length) : (bitsL s).getD k 0 < 48 ∧ s.testBit ((bitsL s).getD k 0) = true := by
  rw [List.getD_eq_getElem?_getD, List.getElem?_eq_getElem hk]
  exact bitsL_mem.1 (List.getElem_mem hk)
theorem has_at (hk : k < (bitsL s).length) : hasF (s : Int) (((bitsL s).getD k 0 : Nat) : Int) = true := by
  have := bit_at hk
  rw [has_nat', this.2, decide_eq_true this.1]; rfl
theorem bits_up {i j : Nat} (hij : i < j) (hj : j < (bitsL s).length) : (bitsL s).getD i 0 < (bitsL s).getD j 0 := by
  rw [List.getD_eq_getElem?_getD, List.getD_eq_getElem?_getD, List.getElem?_eq_getElem hj, List.getElem?_eq_getElem (by omega)]
  exact List.pairwise_iff_getElem.1 (bitsL_sorted s) i j (by omega) hj hij
theorem bits_le {i j : Nat} (hij : i ≤ j) (hj : j < (bitsL s).length) : (bitsL s).getD i 0 ≤ (bitsL s).getD j 0 := by
  rcases Nat.lt_or_eq_of_le hij with h | h
  · exact Nat.le_of_lt (bits_up h hj)
  · rw [h]; exact Nat.le_refl _
theorem at_bit {x : Nat} (hx : x < 48) (hb : s.testBit x = true) : ∃ j, j < (bitsL s).length ∧ (bitsL s).getD j 0 = x := by
  obtain ⟨j, hj, e⟩ := List.getElem_of_mem (bitsL_mem.2 ⟨hx, hb⟩)
  exact ⟨j, hj, by rw [List.getD_eq_getElem?_getD, List.getElem?_eq_getElem hj]; exact e⟩
/-- The next sensor follows upon this one just if the next number is in the set. -/
theorem next_has (hk : k + 1 < (bitsL s).length) : hasF (s : Int) (((bitsL s).getD k 0 : Nat) + 1 : Int) = decide ((bitsL s).getD (k + 1) 0 = (bitsL s).getD k 0 + 1) := by
  have h0 := bit_at (s := s) (k := k) (by omega)
  have h1 := bit_at hk
  have hu := bits_up (s := s) (i := k) (j := k + 1) (by omega) hk
  rw [show ((((bitsL s).getD k 0 : Nat) : Int) + 1) = (((bitsL s).getD k 0 + 1 : Nat) : Int) by omega, has_nat']
  rw [Bool.eq_iff_iff, Bool.and_eq_true, decide_eq_true_eq, decide_eq_true_eq]
  constructor
  · rintro ⟨k1, k2⟩
    obtain ⟨j, hj, e⟩ := at_bit k1 k2
    rcases Nat.lt_trichotomy j (k + 1) with h | h | h
    · have := bits_le (s := s) (i := j) (j := k) (by omega) (by omega)
      omega
    · rw [← h]; exact e
    · have := bits_up (s := s) h hj
      omega
  · intro e
    rw [← e]
    exact ⟨h1.1, h1.2⟩
theorem last_has (hk : k + 1 = (bitsL s).length) : hasF (s : Int) (((bitsL s).getD k 0 : Nat) + 1 : Int) = false := by
  have h0 := bit_at (s := s) (k := k) (by omega)
  rw [show ((((bitsL s).getD k 0 : Nat) : Int) + 1) = (((bitsL s).getD k 0 + 1 : Nat) : Int) by omega, has_nat', Bool.eq_false_iff]
  intro h
  rw [Bool.and_eq_true, decide_eq_true_eq] at h
  obtain ⟨j, hj, e⟩ := at_bit h.1 h.2
  have := bits_le (s := s) (i := j) (j := k) (by omega) (by omega)
  omega
theorem prev_has (hk : k + 1 < (bitsL s).length) : hasF (s : Int) (((bitsL s).getD (k + 1) 0 : Nat) - 1 : Int) = decide ((bitsL s).getD (k + 1) 0 = (bitsL s).getD k 0 + 1) := by
  have h0 := bit_at (s := s) (k := k) (by omega)
  have h1 := bit_at hk
  have hu := bits_up (s := s) (i := k) (j := k + 1) (by omega) hk
  rw [show ((((bitsL s).getD (k + 1) 0 : Nat) : Int) - 1) = (((bitsL s).getD (k + 1) 0 - 1 : Nat) : Int) by omega, has_nat']
  rw [Bool.eq_iff_iff, Bool.and_eq_true, decide_eq_true_eq, decide_eq_true_eq]
  constructor
  · rintro ⟨k1, k2⟩
    obtain ⟨j, hj, e⟩ := at_bit k1 k2
    rcases Nat.lt_trichotomy j k with h | h | h
    · have := bits_up (s := s) h (by omega)
      omega
    · subst h; omega
    · have := bits_le (s := s) (i := k + 1) (j := j) (by omega) hj
      omega
  · intro e
    rw [show (bitsL s).getD (k + 1) 0 - 1 = (bitsL s).getD k 0 by omega]
    exact ⟨by omega, h0.2⟩
theorem first_has (hk : 0 < (bitsL s).length) : hasF (s : Int) (((bitsL s).getD 0 0 : Nat) - 1 : Int) = false := by
  have h0 := bit_at (s := s) hk
  by_cases hz : (bitsL s).getD 0 0 = 0
  · exact has_neg _ _ (by omega)
  · rw [show ((((bitsL s).getD 0 0 : Nat) : Int) - 1) = (((bitsL s).getD 0 0 - 1 : Nat) : Int) by omega, has_nat', Bool.eq_false_iff]
    intro h
    rw [Bool.and_eq_true, decide_eq_true_eq] at h
    obtain ⟨j, hj, e⟩ := at_bit h.1 h.2
    have := bits_le (s := s) (i := 0) (j := j) (by omega) hj
    omega
theorem take_at (hk : k < (bitsL s).length) : (bitsL s).take (k + 1) = (bitsL s).take k ++ [(bitsL s).getD k 0] := by
  rw [List.take_succ_eq_append_getElem hk, List.getD_eq_getElem?_getD, List.getElem?_eq_getElem hk]; rfl
end
/-- The rows of a set's first sensors. -/
def rowsT (s i : Nat) : List ByteArray := rowsF (s : Int) ((bitsL s).take i)
/-- Whether a span begins there. -/
def Head (s i : Nat) : Prop := i ≤ (bitsL s).length ∧ (i < (bitsL s).length → hasF (s : Int) (((bitsL s).getD i 0 : Nat) - 1 : Int) = false)
/-- What a span's rounds keep. -/
def Mid (s i k : Nat) : Prop := i ≤ k ∧ k < (bitsL s).length ∧ endF (s : Int) (((bitsL s).getD i 0 : Nat) : Int) = endF (s : Int) (((bitsL s).getD k 0 : Nat) : Int) ∧ rowsT s (k + 1) = rowsT s i ++ [rowF (s : Int) ((bitsL s).getD i 0)]
theorem head_zero (s : Nat) : Head s 0 := ⟨Nat.zero_le _, first_has⟩
theorem rowsT_zero (s : Nat) : rowsT s 0 = [] := rfl
theorem rowsT_all (s : Nat) : rowsT s (bitsL s).length = rowsF (s : Int) (bitsL s) := by unfold rowsT; rw [List.take_length]
theorem mid_start {s i : Nat} (h : Head s i) (hi : i < (bitsL s).length) : Mid s i i := by
  refine ⟨Nat.le_refl _, hi, rfl, ?_⟩
  unfold rowsT
  rw [take_at hi, rowsF_snoc, h.2 hi, if_neg (by decide)]
theorem mid_step {s i k : Nat} (h : Mid s i k) (hk : k + 1 < (bitsL s).length) (he : (bitsL s).getD (k + 1) 0 = (bitsL s).getD k 0 + 1) : Mid s i (k + 1) := by
  obtain ⟨h1, h2, h3, h4⟩ := h
  refine ⟨by omega, hk, ?_, ?_⟩
  · rw [h3, endF_on _ _ (by omega) (by rw [next_has hk, he]; exact decide_eq_true rfl)]
    congr 1
    rw [he]; omega
  · rw [← h4]
    unfold rowsT
    rw [take_at hk, rowsF_snoc, prev_has hk, if_pos (decide_eq_true he), List.append_nil]
theorem mid_end {s i k : Nat} (h : Mid s i k) (hk : k + 1 < (bitsL s).length → (bitsL s).getD (k + 1) 0 ≠ (bitsL s).getD k 0 + 1) : Head s (k + 1) ∧ endF (s : Int) (((bitsL s).getD i 0 : Nat) : Int) = (((bitsL s).getD k 0 : Nat) : Int) := by
  obtain ⟨h1, h2, h3, h4⟩ := h
  refine ⟨⟨h2, fun h => ?_⟩, ?_⟩
  · rw [prev_has h, decide_eq_false (hk h)]
  · rw [h3]
    refine endF_off _ _ ?_
    by_cases hl : k + 1 < (bitsL s).length
    · rw [next_has hl, decide_eq_false (hk hl)]
    · exact last_has (by omega)
theorem row_ne (s : Int) (i : Nat) (h : i < 48) : rowF s i ≠ ⟨#[]⟩ := fun e => by
  have := congrArg ByteArray.size e
  unfold rowF at this
  have hz : 1 ≤ (digS (i : Int)).size := by
    rw [digS_nat]
    have := List.length_pos_iff.2 (digF_ne i)
    have e : (⟨(digF i).toArray⟩ : ByteArray).size = (digF i).length := by show (digF i).toArray.size = _; simp
    omega
  split at this
  · rw [ByteArray.size_append] at this
    have e0 : (⟨#[]⟩ : ByteArray).size = 0 := rfl
    omega
  · have e0 : (⟨#[]⟩ : ByteArray).size = 0 := rfl
    omega
theorem rowsT_lt {s i : Nat} {r : ByteArray} (hr : r ∈ rowsT s i) : ∃ x, x < 48 ∧ r = rowF (s : Int) x := by
  unfold rowsT rowsF at hr
  obtain ⟨x, hx, rfl⟩ := List.mem_map.1 hr
  exact ⟨x, bitsL_lt (List.mem_of_mem_take (List.mem_filter.1 hx).1), rfl⟩
theorem rowsT_size {s i : Nat} : (jn (rowsT s i)).size ≤ 288 := by
  have h := jn_size (rowsT s i) (fun r hr => by obtain ⟨x, hx, rfl⟩ := rowsT_lt hr; exact rowF_size _ x hx)
  have h1 := rowsF_length (s : Int) ((bitsL s).take i)
  have h2 : ((bitsL s).take i).length ≤ 48 := by rw [List.length_take]; have := bitsL_length s; omega
  unfold rowsT at h ⊢
  omega
/-- The text so far is empty just if no row is there. -/
theorem jn_empty (s i : Nat) : jn (rowsT s i) = ⟨#[]⟩ ↔ rowsT s i = [] := by
  constructor
  · intro h
    refine Classical.byContradiction fun k => jn_ne _ k (fun r hr => ?_) h
    obtain ⟨x, hx, rfl⟩ := rowsT_lt hr
    exact row_ne _ x hx
  · intro h; rw [h]; rfl
theorem textF_ref {s : Nat} (hs : s < 281474976710656) (h0 : (bitsL s).length ≠ 0) : textF s = (jn (rowsT s (bitsL s).length), true) := by
  have hz : s ≠ 0 := fun h => h0 (by rw [h, bitsL_zero]; rfl)
  rw [rowsT_all]
  have h1 := textF_some s hs hz
  have h2 := textF_ok s
  rw [decide_eq_true hs] at h2
  exact Prod.ext h1 h2
theorem textF_none {s : Nat} (hs : s < 281474976710656) (h0 : (bitsL s).length = 0) : textF s = (⟨#[45]⟩, true) := by
  unfold textF
  rw [if_pos hs, List.length_eq_zero_iff.1 h0, if_pos (show rowsF (s : Int) [] = [] from rfl)]
end Go.Proofs.YtlnbglpddpgooaaDoor

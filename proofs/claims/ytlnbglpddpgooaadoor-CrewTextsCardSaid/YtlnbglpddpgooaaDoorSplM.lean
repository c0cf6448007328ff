/- A text's rows: between its commas. Plain facts. By the prover of this repo. -/
import Derived.Test.YtlnbglpddpgooaaDoorBase
import Derived.Test.YtlnbglpddpgooaaDoorOwn
import Derived.Lib.Strings
import Derived.Lib.IndexLaws
namespace Go.Proofs.YtlnbglpddpgooaaDoor

/-- A text's rows: what stands so far, and the rest. -/
def splitC : List UInt8 → List UInt8 → List (List UInt8)
  | acc, [] => [acc]
  | acc, c :: r => if c = 44 then acc :: splitC [] r else splitC (acc ++ [c]) r
def rowsC (s : ByteArray) : List ByteArray := (splitC [] s.data.toList).map fun l => ⟨l.toArray⟩
theorem splitC_nil (acc : List UInt8) : splitC acc [] = [acc] := by simp [splitC]
theorem splitC_comma (acc r : List UInt8) : splitC acc (44 :: r) = acc :: splitC [] r := by simp [splitC]
theorem splitC_on (acc : List UInt8) {c : UInt8} (h : c ≠ 44) (r : List UInt8) : splitC acc (c :: r) = splitC (acc ++ [c]) r := by simp [splitC, h]
theorem splitC_pos : ∀ (r acc : List UInt8), 1 ≤ (splitC acc r).length ∧ (splitC acc r).length ≤ r.length + 1
  | [], acc => by rw [splitC_nil]; simp
  | c :: r, acc => by
    by_cases h : c = 44
    · subst h
      rw [splitC_comma]
      have := splitC_pos r []
      simp only [List.length_cons]; omega
    · rw [splitC_on acc h]
      have := splitC_pos r (acc ++ [c])
      simp only [List.length_cons]; omega
theorem splitC_plain : ∀ (r acc : List UInt8), (∀ c ∈ r, c ≠ 44) → splitC acc r = [acc ++ r]
  | [], acc, _ => by rw [splitC_nil, List.append_nil]
  | c :: r, acc, h => by
    rw [splitC_on acc (h c (by simp)), splitC_plain r _ (fun x hx => h x (by simp [hx]))]
    simp
theorem splitC_app : ∀ (a acc r : List UInt8), (∀ c ∈ a, c ≠ 44) → splitC acc (a ++ 44 :: r) = (acc ++ a) :: splitC [] r
  | [], acc, r, _ => by rw [List.nil_append, splitC_comma, List.append_nil]
  | c :: a, acc, r, h => by
    rw [List.cons_append, splitC_on acc (h c (by simp)), splitC_app a _ r (fun x hx => h x (by simp [hx]))]
    simp
theorem mk_strC (s : ByteArray) : (⟨s.data.toList.toArray⟩ : ByteArray) = s := by
  apply str_ext
  simp
theorem no_byte {l : List UInt8} {c : UInt8} (h : Lib.indexByte l c = -1) : ∀ x ∈ l, x ≠ c := fun x hx e => by
  obtain ⟨k, hk, e2⟩ := List.getElem_of_mem hx
  exact Lib.indexByte_none h k (by rw [List.getElem?_eq_getElem hk, e2, e])
theorem at_byte {l : List UInt8} {c : UInt8} {i : Nat} (h : Lib.indexByte l c = i) : i < l.length ∧ l = l.take i ++ c :: l.drop (i + 1) ∧ ∀ x ∈ l.take i, x ≠ c := by
  obtain ⟨h1, h2⟩ := Lib.indexByte_some h
  have hil : i < l.length := (List.getElem?_eq_some_iff.1 h1).1
  have e : l[i] = c := (List.getElem?_eq_some_iff.1 h1).2
  refine ⟨hil, ?_, fun x hx e => ?_⟩
  · rw [← e, ← List.drop_eq_getElem_cons hil, List.take_append_drop]
  · obtain ⟨k, hk, e2⟩ := List.getElem_of_mem hx
    rw [List.length_take] at hk
    rw [List.getElem_take] at e2
    exact h2 k (by omega) (by rw [List.getElem?_eq_getElem (by omega), e2, e])
theorem byte_cases (l : List UInt8) (c : UInt8) : Lib.indexByte l c = -1 ∨ ∃ i : Nat, Lib.indexByte l c = i := by
  have := Lib.indexByte_ge l c
  by_cases h : Lib.indexByte l c = -1
  · exact .inl h
  · exact .inr ⟨(Lib.indexByte l c).toNat, by omega⟩
theorem rowsC_none {s : ByteArray} (h : Lib.indexByte s.data.toList 44 = -1) : rowsC s = [s] := by
  unfold rowsC
  rw [splitC_plain _ _ (no_byte h)]
  simp only [List.nil_append, List.map_cons, List.map_nil, mk_strC]
theorem rowsC_some {s : ByteArray} {i : Nat} (h : Lib.indexByte s.data.toList 44 = i) : i + 1 ≤ s.size ∧ rowsC s = s.extract 0 i :: rowsC (s.extract (i + 1) s.size) := by
  obtain ⟨hil, hsp, hno⟩ := at_byte h
  have hil2 : i < s.size := by simpa using hil
  refine ⟨hil2, ?_⟩
  unfold rowsC
  have e : splitC [] s.data.toList = s.data.toList.take i :: splitC [] (s.data.toList.drop (i + 1)) := by
    have := splitC_app (s.data.toList.take i) [] (s.data.toList.drop (i + 1)) hno
    rw [← hsp, List.nil_append] at this
    exact this
  rw [e, extract_drop s (i + 1), List.map_cons]
  congr 1
  apply str_ext
  simp
theorem rowsC_pos (s : ByteArray) : 1 ≤ (rowsC s).length ∧ (rowsC s).length ≤ s.size + 1 := by
  unfold rowsC
  rw [List.length_map]
  have := splitC_pos s.data.toList []
  rw [show s.data.toList.length = s.size by simp] at this
  exact this
end Go.Proofs.YtlnbglpddpgooaaDoor

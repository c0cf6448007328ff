/- A line's words: between its blanks. Plain facts. By the prover of this repo. -/
import Derived.Test.YtcpakoobgcdekaaDoorBase
import Derived.Shelf.Strings.Split
namespace Go.Proofs.YtcpakoobgcdekaaDoor

/-- A line's words: what stands so far, and the rest. -/
def splitW : List UInt8 → List UInt8 → List (List UInt8)
  | acc, [] => [acc]
  | acc, c :: r => if c = 32 then acc :: splitW [] r else splitW (acc ++ [c]) r
def wordsOf (s : ByteArray) : List ByteArray := (splitW [] s.data.toList).map fun l => ⟨l.toArray⟩
theorem splitW_nil (acc : List UInt8) : splitW acc [] = [acc] := by simp [splitW]
theorem splitW_blank (acc r : List UInt8) : splitW acc (32 :: r) = acc :: splitW [] r := by simp [splitW]
theorem splitW_on (acc : List UInt8) {c : UInt8} (h : c ≠ 32) (r : List UInt8) : splitW acc (c :: r) = splitW (acc ++ [c]) r := by simp [splitW, h]
theorem splitW_pos : ∀ (r acc : List UInt8), 1 ≤ (splitW acc r).length ∧ (splitW acc r).length ≤ r.length + 1
  | [], acc => by rw [splitW_nil]; simp
  | c :: r, acc => by
    by_cases h : c = 32
    · subst h
      rw [splitW_blank]
      have := splitW_pos r []
      simp only [List.length_cons]; omega
    · rw [splitW_on acc h]
      have := splitW_pos r (acc ++ [c])
      simp only [List.length_cons]; omega
theorem splitW_plain : ∀ (r acc : List UInt8), (∀ c ∈ r, c ≠ 32) → splitW acc r = [acc ++ r]
  | [], acc, _ => by rw [splitW_nil, List.append_nil]
  | c :: r, acc, h => by
    rw [splitW_on acc (h c (by simp)), splitW_plain r _ (fun x hx => h x (by simp [hx]))]
    simp
theorem splitW_app : ∀ (a acc r : List UInt8), (∀ c ∈ a, c ≠ 32) → splitW acc (a ++ 32 :: r) = (acc ++ a) :: splitW [] r
  | [], acc, r, _ => by rw [List.nil_append, splitW_blank, List.append_nil]
  | c :: a, acc, r, h => by
    rw [List.cons_append, splitW_on acc (h c (by simp)), splitW_app a _ r (fun x hx => h x (by simp [hx]))]
    simp
theorem mk_str (s : ByteArray) : (⟨s.data.toList.toArray⟩ : ByteArray) = s := by
  apply str_ext
  simp
theorem split_words : ∀ (n : Nat) (s : ByteArray), s.size = n → Lib.splitB ⟨#[32]⟩ 0 (Lib.countB s ⟨#[32]⟩) s = wordsOf s := by
  intro n
  induction n using Nat.strongRecOn with
  | ind n ih =>
    intro s hs
    have hI : Lib.indexB s ⟨#[32]⟩ = Lib.indexByte s.data.toList 32 := Lib.index_one s.data.toList 32
    rcases Lib.indexB_cases s ⟨#[32]⟩ with h | ⟨i, h, hi⟩
    · rw [Lib.splitB_miss _ _ _ _ h]
      rw [hI] at h
      have hno := Lib.indexByte_none h
      unfold wordsOf
      rw [splitW_plain _ _ (fun c hc e => by
        obtain ⟨k, hk, e2⟩ := List.getElem_of_mem hc
        exact hno k (by rw [List.getElem?_eq_getElem hk, e2, e]))]
      simp only [List.nil_append, List.map_cons, List.map_nil, mk_str]
    · have hi1 : i + 1 ≤ s.size := hi
      rw [Lib.countB_hit s _ i (by decide) h, Nat.add_comm, Lib.splitB_hit _ _ _ _ i h]
      rw [hI] at h
      obtain ⟨h1, h2⟩ := Lib.indexByte_some h
      have hil : i < s.data.toList.length := by simp; omega
      have e32 : s.data.toList[i] = 32 := by
        rw [List.getElem?_eq_getElem hil] at h1
        exact Option.some.inj h1
      have hsp : s.data.toList = s.data.toList.take i ++ 32 :: s.data.toList.drop (i + 1) := by
        rw [← e32, ← List.drop_eq_getElem_cons hil, List.take_append_drop]
      have hno : ∀ c ∈ s.data.toList.take i, c ≠ 32 := fun c hc e => by
        obtain ⟨k, hk, e2⟩ := List.getElem_of_mem hc
        rw [List.length_take] at hk
        rw [List.getElem_take] at e2
        exact h2 k (by omega) (by rw [List.getElem?_eq_getElem (by omega), e2, e])
      have hx : (s.extract (i + 1) s.size).data.toList = s.data.toList.drop (i + 1) := extract_drop s (i + 1)
      have hz : (s.extract (i + 1) s.size).size < n := by
        have := congrArg List.length hx
        rw [List.length_drop, show (s.extract (i + 1) s.size).data.toList.length = (s.extract (i + 1) s.size).size by simp, show s.data.toList.length = s.size by simp] at this
        omega
      have e := ih _ hz (s.extract (i + 1) s.size) rfl
      show s.extract 0 (i + 0) :: Lib.splitB _ 0 (Lib.countB (s.extract (i + 1) s.size) _) (s.extract (i + 1) s.size) = _
      rw [e]
      unfold wordsOf
      rw [hx, show splitW [] s.data.toList = s.data.toList.take i :: splitW [] (s.data.toList.drop (i + 1)) by
        have := splitW_app (s.data.toList.take i) [] (s.data.toList.drop (i + 1)) hno
        rw [← hsp, List.nil_append] at this
        exact this]
      rw [List.map_cons]
      congr 1
      apply str_ext
      rw [Nat.add_zero, extract_take]
end Go.Proofs.YtcpakoobgcdekaaDoor

/- Commands of words: what both packages read. Plain facts. By the prover of this repo. -/
import Derived.Test.YtcpakoobgcdekaaDoorLineI
import Derived.Test.YtcpakoobgcdekaaDoorLineE
import Derived.Test.YtcpakoobgcdekaaDoorLineB
namespace Go.Proofs.YtcpakoobgcdekaaDoor
open Go.RowKit

abbrev Cmd := Int × ByteArray × ByteArray × List Int
def cmd0 : Cmd := (0, ByteArray.empty, ByteArray.empty, [])
/-- The number that a whole text is. -/
def numW (t : ByteArray) : Option Int := if (numF t.data.toList).2.2 = true ∧ (numF t.data.toList).2.1 = t.size then some ((numF t.data.toList).1 : Int) else none
def numsGo : List Int → List ByteArray → Option (List Int)
  | acc, [] => some acc
  | acc, t :: r => match numW t with
    | none => none
    | some n => numsGo (acc ++ [n]) r
theorem numsGo_nil (acc : List Int) : numsGo acc [] = some acc := by simp [numsGo]
theorem numsGo_bad {acc : List Int} {t : ByteArray} {r : List ByteArray} (h : numW t = none) : numsGo acc (t :: r) = none := by simp [numsGo, h]
theorem numsGo_on {acc : List Int} {t : ByteArray} {r : List ByteArray} {n : Int} (h : numW t = some n) : numsGo acc (t :: r) = numsGo (acc ++ [n]) r := by simp [numsGo, h]
/-- The names of a command of words. -/
def nm1 (W : List ByteArray) (k : Nat) : ByteArray := if 0 < k then W.getD 1 ByteArray.empty else ByteArray.empty
def nm2 (W : List ByteArray) (k : Nat) : ByteArray := if 1 < k then W.getD 2 ByteArray.empty else ByteArray.empty
def finF (op : Nat) (W : List ByteArray) (k : Nat) : Option (List Int) → Option Cmd
  | none => none
  | some l => if cmdR op (nm1 W k) (nm2 W k) l = true then some ((op : Int), nm1 W k, nm2 W k, l) else none
/-- The command of words. -/
def readF (W : List ByteArray) : Option Cmd :=
  if opF (W.getD 0 ByteArray.empty) = 0 then none
  else if W.length ≤ (needF (opF (W.getD 0 ByteArray.empty) : Nat)).1 then none
  else finF (opF (W.getD 0 ByteArray.empty)) W (needF (opF (W.getD 0 ByteArray.empty) : Nat)).1 (numsGo [] (W.drop (1 + (needF (opF (W.getD 0 ByteArray.empty) : Nat)).1)))
/-- The command of a line; what is wrong. -/
def parseF (s : ByteArray) : Cmd × Int :=
  if 4096 < s.size then (cmd0, 21) else if s.size = 0 ∨ s.data.toList.head? = some 35 then (cmd0, 0)
  else match readF (wordsOf s) with
    | none => (cmd0, 10)
    | some c => (c, 0)
theorem numF_size : ∀ (l : List UInt8) (n i : Nat) (q : Nat × Nat), numGo n i l = some q → i ≤ q.2 ∧ q.2 ≤ i + l.length
  | [], n, i, q, h => by rw [numGo_nil] at h; cases h; simp
  | c :: r, n, i, q, h => by
    by_cases hd : 48 ≤ c.toNat ∧ c.toNat ≤ 57
    · by_cases ho : 9223372036854775807 < 10 * n + (c.toNat - 48)
      · rw [numGo_over hd ho] at h; cases h
      · rw [numGo_on hd ho] at h
        have := numF_size r _ _ q h
        simp only [List.length_cons]; omega
    · rw [numGo_stop hd] at h
      cases h
      simp
theorem numF_bd : ∀ (l : List UInt8) (n i : Nat) (q : Nat × Nat), n ≤ 9223372036854775807 → numGo n i l = some q → q.1 ≤ 9223372036854775807
  | [], n, i, q, hn, h => by rw [numGo_nil] at h; cases h; exact hn
  | c :: r, n, i, q, hn, h => by
    by_cases hd : 48 ≤ c.toNat ∧ c.toNat ≤ 57
    · by_cases ho : 9223372036854775807 < 10 * n + (c.toNat - 48)
      · rw [numGo_over hd ho] at h; cases h
      · rw [numGo_on hd ho] at h
        exact numF_bd r _ _ q (by omega) h
    · rw [numGo_stop hd] at h
      cases h
      exact hn
theorem num_le (t : ByteArray) : (numF t.data.toList).2.1 ≤ t.size := by
  unfold numF
  cases h : numGo 0 0 t.data.toList with
  | none => simp [numE]
  | some q =>
    have := numF_size _ _ _ q h
    rw [len_size] at this
    obtain ⟨n, i⟩ := q
    unfold numE
    simp only []
    split
    · simp
    · simp at this ⊢; omega
end Go.Proofs.YtcpakoobgcdekaaDoor

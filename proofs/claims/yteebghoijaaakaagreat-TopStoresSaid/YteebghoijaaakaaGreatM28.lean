/- Part 28 of the proof: texts joined by this repo's tools/merge2.py (ShtN). By the prover of this repo. -/
import Derived.Test.YteebghoijaaakaaGreatM27
set_option linter.unusedVariables false
set_option linter.unusedSimpArgs false
/- Plain facts: the lines of a digest's text, one behind the other. No program's step in sight. By the prover of this repo. -/
namespace Go.Proofs.YteebghoijaaakaaGreat
namespace SH
open Go.RowKit
open TwigM RollM StoM VaryM WirM

/-- A line of three numbers. -/
def line3 (p0 p1 p2 : List UInt8) (n0 n1 n2 : Nat) : List UInt8 := p0 ++ (digF n0 ++ (p1 ++ (digF n1 ++ (p2 ++ (digF n2 ++ [])))))
/-- The first line, and the others. -/
def headL (L K S : Int) : List UInt8 := line3 sDigest.data.toList [32] [32] L.toNat K.toNat S.toNat
def nodeL (L : Int) (p : Nd) : List UInt8 := line3 [] [46, 46] [32] (loF L p.1).toNat (loF L p.1 + pw (L - lg p.1) - 1).toNat p.2.toNat
/-- All lines. -/
def rowsD (L K : Int) (l : List Nd) : List (List UInt8) := headL L K (sumL l) :: l.map (nodeL L)
/-- Lines, each with a byte 10 behind it. -/
def joinNl : List (List UInt8) → List UInt8
  | [] => []
  | x :: r => x ++ 10 :: joinNl r
/-- Lines with their numbers. -/
def numb : Nat → List (List UInt8) → List (Nat × List UInt8)
  | _, [] => []
  | k, x :: r => (k, x) :: numb (k + 1) r
theorem numb_len : ∀ (k : Nat) (r : List (List UInt8)), (numb k r).length = r.length
  | _, [] => rfl
  | k, x :: r => by rw [numb, List.length_cons, List.length_cons, numb_len (k + 1) r]
theorem numb_get : ∀ (k : Nat) (r : List (List UInt8)) (i : Nat), (numb k r)[i]? = (r[i]?).map fun x => (k + i, x)
  | _, [], i => by simp [numb]
  | k, x :: r, 0 => by simp [numb]
  | k, x :: r, i + 1 => by
    rw [numb, List.getElem?_cons_succ, List.getElem?_cons_succ, numb_get (k + 1) r i, show k + 1 + i = k + (i + 1) by omega]
theorem headW_line {L K S : Int} (h1 : 0 ≤ L) (h2 : 0 ≤ K) (h3 : 0 ≤ S) : catS (headW L K S) = headL L K S := by
  unfold headL line3 headW
  simp only [catS, digS_list h1, digS_list h2, digS_list h3]
  rfl
theorem lineW_line {L : Int} {p : Nd} (h1 : 0 ≤ loF L p.1) (h2 : 0 ≤ loF L p.1 + pw (L - lg p.1) - 1) (h3 : 0 ≤ p.2) : catS (lineW L p) = nodeL L p := by
  unfold nodeL line3 lineW
  simp only [catS, digS_list h1, digS_list h2, digS_list h3]
  rfl
theorem lines_join (L : Int) : ∀ l : List Nd, (∀ p ∈ l, catS (lineW L p) = nodeL L p) → linesL L l = joinNl (l.map (nodeL L))
  | [], _ => rfl
  | p :: l, h => by
    rw [linesL, List.map_cons, joinNl, lines_join L l (fun q hq => h q (by simp [hq])), tellL, h p (by simp), List.append_assoc]
    rfl
/-- What holds of a node's ends. -/
theorem ends_pos {L : Int} {p : Nd} (hL1 : 1 ≤ L) (h0 : 1 ≤ p.1) (h1 : p.1 < 2 * pw L) : 0 ≤ loF L p.1 ∧ 0 ≤ loF L p.1 + pw (L - lg p.1) - 1 ∧ loF L p.1 < pw L ∧ loF L p.1 + pw (L - lg p.1) - 1 < pw L := by
  obtain ⟨v1, v2, v3⟩ := ends_in hL1 h0 h1
  unfold hiF at v2 v3
  omega
theorem text_rows {L K : Int} {l : List Nd} (hL1 : 1 ≤ L) (hK : 0 ≤ K) (hu : InU L l) (hc : ∀ p ∈ l, 0 ≤ p.2) : textL L K l = joinNl (rowsD L K l) := by
  unfold textL rowsD
  rw [joinNl, lines_join L l ?_, tellL, headW_line (by omega) hK (sumL_nonneg l hc), List.append_assoc]
  · rfl
  · intro p hp
    obtain ⟨u1, u2⟩ := hu p hp
    obtain ⟨v1, v2, -, -⟩ := ends_pos hL1 u1 u2
    exact lineW_line v1 v2 (hc p hp)
theorem line3_no10 {p0 p1 p2 : List UInt8} {n0 n1 n2 : Nat} (h0 : ∀ c ∈ p0, c ≠ 10) (h1 : ∀ c ∈ p1, c ≠ 10) (h2 : ∀ c ∈ p2, c ≠ 10) : ∀ c ∈ line3 p0 p1 p2 n0 n1 n2, c ≠ 10 := by
  intro c hc
  unfold line3 at hc
  simp only [List.mem_append, List.append_nil] at hc
  rcases hc with h | h | h | h | h | h
  · exact h0 c h
  · exact digF_no10 _ c h
  · exact h1 c h
  · exact digF_no10 _ c h
  · exact h2 c h
  · exact digF_no10 _ c h
theorem rows_no10 {L K : Int} {l : List Nd} : ∀ x ∈ rowsD L K l, ∀ c ∈ x, c ≠ 10 := by
  intro x hx
  unfold rowsD at hx
  rcases List.mem_cons.1 hx with rfl | h
  · exact line3_no10 (by intro c hc; revert c; decide) (by decide) (by decide)
  · obtain ⟨p, -, rfl⟩ := List.mem_map.1 h
    exact line3_no10 (by decide) (by decide) (by decide)
theorem line3_len {p0 p1 p2 : List UInt8} {n0 n1 n2 : Nat} (h0 : n0 ≤ 9223372036854775807) (h1 : n1 ≤ 9223372036854775807) (h2 : n2 ≤ 9223372036854775807) (hp : p0.length ≤ 10 ∧ p1.length ≤ 10 ∧ p2.length ≤ 10) : (line3 p0 p1 p2 n0 n1 n2).length ≤ 100 := by
  have d0 := digF_len 19 n0 (by show n0 < 100000000000000000000; omega)
  have d1 := digF_len 19 n1 (by show n1 < 100000000000000000000; omega)
  have d2 := digF_len 19 n2 (by show n2 < 100000000000000000000; omega)
  unfold line3
  simp only [List.length_append, List.length_nil]
  omega
theorem noDig_cons {c : UInt8} {r : List UInt8} (h : c.toNat < 48 ∨ 57 < c.toNat) : NoDig (c :: r) := by
  show ¬ _
  omega
theorem joinNl_len : ∀ {r : List (List UInt8)}, (∀ x ∈ r, x.length ≤ 100) → (joinNl r).length ≤ 101 * r.length
  | [], _ => by simp [joinNl]
  | x :: r, h => by
    have h1 := h x (by simp)
    have h2 := joinNl_len (r := r) fun y hy => h y (by simp [hy])
    simp only [joinNl, List.length_append, List.length_cons]
    omega
end SH
end Go.Proofs.YteebghoijaaakaaGreat

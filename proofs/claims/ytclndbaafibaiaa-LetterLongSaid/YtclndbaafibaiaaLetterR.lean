/- The walks of layer 29, on: the reference's letter of bytes. By the prover of this repo. -/
import Derived.Test.YtclndbaafibaiaaLetterC
import Derived.Test.YtclndbaafibaiaaSealW
namespace Go.Proofs.Ytclndbaafibaiaa
open Go.RowKit
open VaryM SealM

abbrev noLet : Let := ⟨0, 0, 0, ⟨#[]⟩⟩
/-- May number i of a letter be v, the second one being b? -/
def badR (i : Nat) (v b : Int) : Bool := (decide (i = 1) && !decide (0 ≤ v ∧ v < 48)) || (decide (i = 2) && (!decide (v < 281474976710656) || !hasF v b))
/-- The rest of a letter: k numbers are still to come. -/
def refT : Nat → Int → Int → Int → Int → ByteArray → Let × Int
  | 0, a, b, d, n, t => if (t.size : Int) < n then (noLet, 9) else if n < (t.size : Int) then (noLet, 11) else (⟨a, b, d, t⟩, 0)
  | k + 1, a, b, d, n, t =>
    let g := get t.data.toList
    if g.2.2 ≠ 0 then (noLet, (g.2.2 : Int))
    else if badR (3 - k) g.1 b = true then (noLet, 10)
    else if 3 - k = 3 ∧ 1048576 < (g.1 : Int) then (noLet, 13)
    else refT k (if 3 - k = 0 then g.1 else a) (if 3 - k = 1 then g.1 else b) (if 3 - k = 2 then g.1 else d) (if 3 - k = 3 then g.1 else n) (t.extract g.2.1 t.size)
def decR (all : ByteArray) : Let × Int :=
  let o := openRes all
  if o.2 ≠ 0 then (noLet, o.2)
  else if o.1.size < 4 then (noLet, 9)
  else if o.1.extract 0 4 ≠ ⟨#[68, 87, 76, 1]⟩ then (noLet, 10)
  else refT 4 0 0 0 0 (o.1.extract 4 o.1.size)

/-- What lies in ref29.Decode's own memory: its result, the letter that is none, the four numbers. -/
structure Rst (W w : World) (ga : Nat) (a b d n : Int) : Prop where
  bel : Below W.heap.size W w
  R : Blk w W.heap.size 72 #[.int .i64 0, .int .i64 0, .int .u64 0, .string ⟨#[]⟩]
  N : Blk w (W.heap.size + 1) 72 #[.int .i64 0, .int .i64 0, .int .u64 0, .string ⟨#[]⟩]
  A : Blk w ga 101 #[.int .i64 a, .int .i64 b, .int .i64 d, .int .i64 n]
  l : W.heap.size + 1 < ga
section
variable {W w w' : World} {ga : Nat} {a b d n : Int}
theorem Rst.nofacts (D : Rst W w ga a b d n) :
    w.cell? ⟨W.heap.size, 0, none⟩ = some (.int .i64 0) ∧ w.cell? ⟨W.heap.size, 1, none⟩ = some (.int .i64 0) ∧ w.cell? ⟨W.heap.size, 2, none⟩ = some (.int .u64 0) ∧ w.cell? ⟨W.heap.size, 3, none⟩ = some (.string ⟨#[]⟩) ∧ (∀ i, w.frozen? ⟨W.heap.size, i, none⟩ = false) ∧
    w.cell? ⟨W.heap.size + 1, 0, none⟩ = some (.int .i64 0) ∧ w.cell? ⟨W.heap.size + 1, 1, none⟩ = some (.int .i64 0) ∧ w.cell? ⟨W.heap.size + 1, 2, none⟩ = some (.int .u64 0) ∧ w.cell? ⟨W.heap.size + 1, 3, none⟩ = some (.string ⟨#[]⟩) :=
  ⟨D.R.cell 0, D.R.cell 1, D.R.cell 2, D.R.cell 3, D.R.free, D.N.cell 0, D.N.cell 1, D.N.cell 2, D.N.cell 3⟩
theorem Rst.nums (D : Rst W w ga a b d n) :
    w.cell? ⟨ga, 0, none⟩ = some (.int .i64 a) ∧ w.cell? ⟨ga, 1, none⟩ = some (.int .i64 b) ∧ w.cell? ⟨ga, 2, none⟩ = some (.int .i64 d) ∧ w.cell? ⟨ga, 3, none⟩ = some (.int .i64 n) ∧ (∀ i, w.frozen? ⟨ga, i, none⟩ = false) :=
  ⟨D.A.cell 0, D.A.cell 1, D.A.cell 2, D.A.cell 3, D.A.free⟩
theorem Rst.no (D : Rst W w ga a b d n) : Below W.heap.size W ((((w.setCell ⟨W.heap.size, 0, none⟩ (.int .i64 0)).setCell ⟨W.heap.size, 1, none⟩ (.int .i64 0)).setCell ⟨W.heap.size, 2, none⟩ (.int .u64 0)).setCell ⟨W.heap.size, 3, none⟩ (.string ⟨#[]⟩)) :=
  (((D.bel.setCell (by simp) _).setCell (by simp) _).setCell (by simp) _).setCell (by simp) _
theorem Rst.set0 (D : Rst W w ga a b d n) (v : Int) : Rst W (w.setCell ⟨ga, 0, none⟩ (.int .i64 v)) ga v b d n := by
  obtain ⟨bel, R, N, A, l⟩ := D
  exact ⟨bel.setCell (by simp; omega) _, R.off (by simp; omega) _, N.off (by simp; omega) _, by simpa using A.set 0 (.int .i64 v), l⟩
theorem Rst.set1 (D : Rst W w ga a b d n) (v : Int) : Rst W (w.setCell ⟨ga, 1, none⟩ (.int .i64 v)) ga a v d n := by
  obtain ⟨bel, R, N, A, l⟩ := D
  exact ⟨bel.setCell (by simp; omega) _, R.off (by simp; omega) _, N.off (by simp; omega) _, by simpa using A.set 1 (.int .i64 v), l⟩
theorem Rst.set2 (D : Rst W w ga a b d n) (v : Int) : Rst W (w.setCell ⟨ga, 2, none⟩ (.int .i64 v)) ga a b v n := by
  obtain ⟨bel, R, N, A, l⟩ := D
  exact ⟨bel.setCell (by simp; omega) _, R.off (by simp; omega) _, N.off (by simp; omega) _, by simpa using A.set 2 (.int .i64 v), l⟩
theorem Rst.set3 (D : Rst W w ga a b d n) (v : Int) : Rst W (w.setCell ⟨ga, 3, none⟩ (.int .i64 v)) ga a b d v := by
  obtain ⟨bel, R, N, A, l⟩ := D
  exact ⟨bel.setCell (by simp; omega) _, R.off (by simp; omega) _, N.off (by simp; omega) _, by simpa using A.set 3 (.int .i64 v), l⟩
end

/-- Two new blocks of four cells, behind a call that only made memory. -/
theorem made_two (W w1 : World) (t1 t2 : TypeId) (a0 a1 a2 a3 b0 b1 b2 b3 : Value) (hb : Below ((W.alloc (.cells #[a0, a1, a2, a3] t1)).alloc (.cells #[b0, b1, b2, b3] t2)).heap.size ((W.alloc (.cells #[a0, a1, a2, a3] t1)).alloc (.cells #[b0, b1, b2, b3] t2)) w1) :
    w1.cell? ⟨W.heap.size, 0, none⟩ = some a0 ∧ w1.cell? ⟨W.heap.size, 1, none⟩ = some a1 ∧ w1.cell? ⟨W.heap.size, 2, none⟩ = some a2 ∧ w1.cell? ⟨W.heap.size, 3, none⟩ = some a3 ∧ (∀ i, w1.frozen? ⟨W.heap.size, i, none⟩ = false) ∧
    w1.cell? ⟨W.heap.size + 1, 0, none⟩ = some b0 ∧ w1.cell? ⟨W.heap.size + 1, 1, none⟩ = some b1 ∧ w1.cell? ⟨W.heap.size + 1, 2, none⟩ = some b2 ∧ w1.cell? ⟨W.heap.size + 1, 3, none⟩ = some b3 := by
  have hA := ((Blk.made W t1 #[a0, a1, a2, a3]).alloc (.cells #[b0, b1, b2, b3] t2)).kept hb
  have hB := (Blk.made_at (W.alloc (.cells #[a0, a1, a2, a3] t1)) t2 #[b0, b1, b2, b3] (g := W.heap.size + 1) (by simp)).kept hb
  exact ⟨hA.cell 0, hA.cell 1, hA.cell 2, hA.cell 3, hA.free, hB.cell 0, hB.cell 1, hB.cell 2, hB.cell 3⟩

theorem refT_err {k : Nat} {a b d n : Int} {t : ByteArray} {v sz e : Nat} (hg : get t.data.toList = (v, sz, e)) (he : e ≠ 0) : refT (k + 1) a b d n t = (noLet, (e : Int)) := by
  simp only [refT]; rw [hg, if_pos he]
theorem refT_bad {k : Nat} {a b d n : Int} {t : ByteArray} {v sz : Nat} (hg : get t.data.toList = (v, sz, 0)) (hb : badR (3 - k) v b = true) : refT (k + 1) a b d n t = (noLet, 10) := by
  simp only [refT]; rw [hg]; simp only [ne_eq, not_true_eq_false, if_false]; rw [if_pos hb]
theorem refT_cap {a b d n : Int} {t : ByteArray} {v sz : Nat} (hg : get t.data.toList = (v, sz, 0)) (hb : 1048576 < (v : Int)) : refT 1 a b d n t = (noLet, 13) := by
  simp only [refT]; rw [hg]; simp only [ne_eq, not_true_eq_false, if_false]; rw [if_neg (by simp [badR]), if_pos (by simpa using hb)]
theorem refT_on {k : Nat} {a b d n : Int} {t : ByteArray} {v sz : Nat} (hg : get t.data.toList = (v, sz, 0)) (hb : ¬ badR (3 - k) v b = true) (hc : ¬ (3 - k = 3 ∧ 1048576 < (v : Int))) :
    refT (k + 1) a b d n t = refT k (if 3 - k = 0 then v else a) (if 3 - k = 1 then v else b) (if 3 - k = 2 then v else d) (if 3 - k = 3 then v else n) (t.extract sz t.size) := by
  conv => lhs; simp only [refT]
  rw [hg]; simp only [ne_eq, not_true_eq_false, if_false]; rw [if_neg hb, if_neg hc]

end Go.Proofs.Ytclndbaafibaiaa

/- The walks of layer 29, on: the letter of bytes. By the prover of this repo. -/
import Derived.Test.YtclndbaafibaiaaLetterC
namespace Go.Proofs.Ytclndbaafibaiaa
open Go.RowKit
open VaryM SealM

abbrev magic : ByteArray := ⟨#[68, 87, 76, 1]⟩
/-- What lies in letter.Decode's own memory: its result, the error, the closure that tells of errors, what is left of the text, the letter. -/
structure Dst (W w : World) (gr ge gf gl gx : Nat) (e : Int) (t : ByteArray) (x0 x1 x2 : Int) (x3 : ByteArray) : Prop where
  bel : Below W.heap.size W w
  R : Blk w gr 68 #[.int .i64 0, .int .i64 0, .int .u64 0, .string ⟨#[]⟩]
  E : Blk w ge 34 #[.int .i64 e]
  F : Blk w gf 95 #[.func (.func 56) #[] #[.pointer (some ⟨ge, 0, none⟩)]]
  L : Blk w gl 9 #[.string t]
  X : Blk w gx 68 #[.int .i64 x0, .int .i64 x1, .int .u64 x2, .string x3]
  l0 : W.heap.size ≤ gr
  l1 : gr < ge
  l2 : ge < gf
  l3 : gf < gl
  l4 : gl < gx
  s1 : t.size ≤ 1000000000
section
variable {W w : World} {gr ge gf gl gx : Nat} {e : Int} {t : ByteArray} {x0 x1 x2 : Int} {x3 : ByteArray}
theorem Dst.fail (D : Dst W w gr ge gf gl gx e t x0 x1 x2 x3) (b : Bool) (f e' : Int) (h : failF b f e = e') :
    Calls Try.prog 56 #[.bool b, .int .i64 f, .pointer (some ⟨ge, 0, none⟩)] w fun r w' => r = .returned (.tuple #[]) ∧ Dst W w' gr ge gf gl gx e' t x0 x1 x2 x3 :=
  (letter_fail b f e ge w D.E).mono fun r w' ⟨hr, hw⟩ => by
    rw [h] at hw
    subst hw
    obtain ⟨bel, R, E, F, L, X, l0, l1, l2, l3, l4, s1⟩ := D
    exact ⟨hr, bel.setCell (by simp; omega) _, R.off (by simp; omega) _, by simpa using E.set 0 (.int .i64 e'), F.off (by simp; omega) _, L.off (by simp; omega) _, X.off (by simp; omega) _, l0, l1, l2, l3, l4, s1⟩
theorem Dst.num (D : Dst W w gr ge gf gl gx e t x0 x1 x2 x3) (n e' : Int) (t' : ByteArray) (h : numF e t = (n, e', t')) (hs : t'.size ≤ t.size) :
    Calls Try.prog 58 #[.pointer (some ⟨ge, 0, none⟩), .pointer (some ⟨gl, 0, none⟩), .pointer (some ⟨gf, 0, none⟩)] w fun r w' => r = .returned (.int .i64 n) ∧ Dst W w' gr ge gf gl gx e' t' x0 x1 x2 x3 :=
  (letter_number e t ge gl gf w D.E D.L D.F (by have := D.l2; have := D.l3; omega) (by have := D.l2; omega) D.s1).mono fun r w' ⟨hr, hw⟩ => by
    rw [h] at hr hw
    subst hw
    obtain ⟨bel, R, E, F, L, X, l0, l1, l2, l3, l4, s1⟩ := D
    refine ⟨hr, (bel.setCell (by simp; omega) _).setCell (by simp; omega) _, (R.off (by simp; omega) _).off (by simp; omega) _, ?_, (F.off (by simp; omega) _).off (by simp; omega) _, ?_, (X.off (by simp; omega) _).off (by simp; omega) _, l0, l1, l2, l3, l4, by omega⟩
    · refine Blk.off ?_ (by simp; omega) _
      simpa using E.set 0 (.int .i64 e')
    · simpa using (L.off (p := ⟨ge, 0, none⟩) (by simp; omega) (.int .i64 e')).set 0 (.string t')
theorem Dst.set0 (D : Dst W w gr ge gf gl gx e t x0 x1 x2 x3) (n : Int) : Dst W (w.setCell ⟨gx, 0, none⟩ (.int .i64 n)) gr ge gf gl gx e t n x1 x2 x3 := by
  obtain ⟨bel, R, E, F, L, X, l0, l1, l2, l3, l4, s1⟩ := D
  exact ⟨bel.setCell (by simp; omega) _, R.off (by simp; omega) _, E.off (by simp; omega) _, F.off (by simp; omega) _, L.off (by simp; omega) _, by simpa using X.set 0 (.int .i64 n), l0, l1, l2, l3, l4, s1⟩
theorem Dst.set1 (D : Dst W w gr ge gf gl gx e t x0 x1 x2 x3) (n : Int) : Dst W (w.setCell ⟨gx, 1, none⟩ (.int .i64 n)) gr ge gf gl gx e t x0 n x2 x3 := by
  obtain ⟨bel, R, E, F, L, X, l0, l1, l2, l3, l4, s1⟩ := D
  exact ⟨bel.setCell (by simp; omega) _, R.off (by simp; omega) _, E.off (by simp; omega) _, F.off (by simp; omega) _, L.off (by simp; omega) _, by simpa using X.set 1 (.int .i64 n), l0, l1, l2, l3, l4, s1⟩
theorem Dst.set2 (D : Dst W w gr ge gf gl gx e t x0 x1 x2 x3) (n : Int) : Dst W (w.setCell ⟨gx, 2, none⟩ (.int .u64 n)) gr ge gf gl gx e t x0 x1 n x3 := by
  obtain ⟨bel, R, E, F, L, X, l0, l1, l2, l3, l4, s1⟩ := D
  exact ⟨bel.setCell (by simp; omega) _, R.off (by simp; omega) _, E.off (by simp; omega) _, F.off (by simp; omega) _, L.off (by simp; omega) _, by simpa using X.set 2 (.int .u64 n), l0, l1, l2, l3, l4, s1⟩
theorem Dst.set3 (D : Dst W w gr ge gf gl gx e t x0 x1 x2 x3) (n : ByteArray) : Dst W (w.setCell ⟨gx, 3, none⟩ (.string n)) gr ge gf gl gx e t x0 x1 x2 n := by
  obtain ⟨bel, R, E, F, L, X, l0, l1, l2, l3, l4, s1⟩ := D
  exact ⟨bel.setCell (by simp; omega) _, R.off (by simp; omega) _, E.off (by simp; omega) _, F.off (by simp; omega) _, L.off (by simp; omega) _, by simpa using X.set 3 (.string n), l0, l1, l2, l3, l4, s1⟩
theorem Dst.alloc (D : Dst W w gr ge gf gl gx e t x0 x1 x2 x3) (o : Obj) : Dst W (w.alloc o) gr ge gf gl gx e t x0 x1 x2 x3 := by
  obtain ⟨bel, R, E, F, L, X, l0, l1, l2, l3, l4, s1⟩ := D
  exact ⟨bel.alloc bel.size _, R.alloc _, E.alloc _, F.alloc _, L.alloc _, X.alloc _, l0, l1, l2, l3, l4, s1⟩
theorem Dst.drew (D : Dst W w gr ge gf gl gx e t x0 x1 x2 x3) (n : Nat) : Dst W (w.drewN n) gr ge gf gl gx e t x0 x1 x2 x3 := by
  obtain ⟨bel, R, E, F, L, X, l0, l1, l2, l3, l4, s1⟩ := D
  exact ⟨below_drewN bel n, R.drewN n, E.drewN n, F.drewN n, L.drewN n, X.drewN n, l0, l1, l2, l3, l4, s1⟩
/-- What the walk asks of these cells. -/
theorem Dst.facts (D : Dst W w gr ge gf gl gx e t x0 x1 x2 x3) :
    w.cell? ⟨ge, 0, none⟩ = some (.int .i64 e) ∧ w.cell? ⟨gf, 0, none⟩ = some (.func (.func 56) #[] #[.pointer (some ⟨ge, 0, none⟩)]) ∧ w.cell? ⟨gl, 0, none⟩ = some (.string t) ∧
    w.cell? ⟨gx, 0, none⟩ = some (.int .i64 x0) ∧ w.cell? ⟨gx, 1, none⟩ = some (.int .i64 x1) ∧ w.cell? ⟨gx, 2, none⟩ = some (.int .u64 x2) ∧ w.cell? ⟨gx, 3, none⟩ = some (.string x3) ∧ (∀ i, w.frozen? ⟨gx, i, none⟩ = false) :=
  ⟨D.E.cell 0, D.F.cell 0, D.L.cell 0, D.X.cell 0, D.X.cell 1, D.X.cell 2, D.X.cell 3, D.X.free⟩
theorem Dst.res (D : Dst W w gr ge gf gl gx e t x0 x1 x2 x3) :
    w.cell? ⟨gr, 0, none⟩ = some (.int .i64 0) ∧ w.cell? ⟨gr, 1, none⟩ = some (.int .i64 0) ∧ w.cell? ⟨gr, 2, none⟩ = some (.int .u64 0) ∧ w.cell? ⟨gr, 3, none⟩ = some (.string ⟨#[]⟩) ∧ (∀ i, w.frozen? ⟨gr, i, none⟩ = false) :=
  ⟨D.R.cell 0, D.R.cell 1, D.R.cell 2, D.R.cell 3, D.R.free⟩
theorem Dst.ne (D : Dst W w gr ge gf gl gx e t x0 x1 x2 x3) : ¬ gx = ge ∧ ¬ gx = gf ∧ ¬ gx = gl ∧ ¬ gx = gr ∧ ¬ ge = gx ∧ ¬ gf = gx ∧ ¬ gl = gx ∧ ¬ gr = gx ∧ gx < w.heap.size := by
  have hX := D.X.lt
  obtain ⟨bel, R, E, F, L, X, l0, l1, l2, l3, l4, s1⟩ := D
  omega
end

theorem num_bd (e : Int) (t : ByteArray) : 0 ≤ (numF e t).1 ∧ (numF e t).1 < 9223372036854775808 ∧ (numF e t).2.2.size ≤ t.size := by
  unfold numF
  split
  · have := (get_facts t.data.toList).1
    exact ⟨by simp, by simp only; omega, by simp⟩
  · exact ⟨by simp, by simp, by simp⟩
end Go.Proofs.Ytclndbaafibaiaa

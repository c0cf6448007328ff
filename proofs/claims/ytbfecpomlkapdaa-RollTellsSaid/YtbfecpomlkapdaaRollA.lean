/- Layer 6: the chapter's examples. By the prover of this repo. -/
import Derived.Test.YtbfecpomlkapdaaRollO
import Derived.Test.YtbfecpomlkapdaaRollK
import Derived.Test.YtbfecpomlkapdaaRollR
import Derived.Test.YtbfecpomlkapdaaRollX
namespace Go.Proofs.Ytbfecpomlkapdaa
open Go.RowKit
open TwigM RollM

theorem lit_rd (l : List Nd) (w : World) (t : TypeId) : Rd (w.alloc (.cells (ndv l).toArray t)) (some ⟨w.heap.size, 0, none⟩) l.length 2 (ndc l) :=
  Rd.of_blk (Blk.made w t _) 0 (by simp [ndv_length]) (by intro i hi; rw [Nat.zero_add, List.getElem?_toArray]; exact ndv_get l i hi)

theorem ex_fold : foldF [(5, 2), (3, 1), (5, 4), (7, 0)] = ([(3, 1), (5, 6)], true) := by decide +kernel
theorem ex_post : postF 2 [(1, 1), (2, 1), (3, 1), (5, 1)] = ([(5, 1), (2, 1), (3, 1), (1, 1)], true) := by decide +kernel
theorem wf_of {l : List Nd} (h : l.all (fun p => decide (0 ≤ p.1 ∧ p.1 ≤ 9 ∧ 0 ≤ p.2 ∧ p.2 ≤ 9)) = true) : NdWf l := fun p hp => by
  have := List.all_eq_true.1 h p hp
  simp only [decide_eq_true_eq] at this
  omega

set_option maxRecDepth 100000 in
set_option maxHeartbeats 4000000 in
theorem alive06 (w : World) : Calls Try.prog 39 #[] w fun e w' => e = .returned (.bool true) ∧ Below w.heap.size w w' := by
  have h1 := roll_fold (some ⟨w.heap.size, 0, none⟩) 4 [(5, 2), (3, 1), (5, 4), (7, 0)] _ (lit_rd _ w 43) (fun h => by cases h) (Nat.le_refl _) (by unfold maxLen; omega) (by decide) (wf_of (by decide))
  rw [ex_fold] at h1
  have h2 := fun W : World => roll_post 2 (some ⟨W.heap.size, 0, none⟩) 4 [(1, 1), (2, 1), (3, 1), (5, 1)] _ (lit_rd _ W 43) (fun h => by cases h) (Nat.le_refl _) (by unfold maxLen; omega) (by decide) (wf_of (by decide))
  rw [ex_post] at h2
  replace h1 := hide h1
  replace h2 := hide h2
  go_enter Try.func39, Try.ntmps39
  go_wp2_with fail
  refine h1.out.mono ?_
  rintro e w1 ⟨v1, rfl, hv1, hb1⟩
  go_wp2_with fail
  refine (h2.out _).mono ?_
  rintro e w2 ⟨v2, rfl, hv2, hb2⟩
  obtain ⟨A1, c1, rfl, _, _, _, hr1⟩ := hv1
  obtain ⟨A2, c2, rfl, _, _, _, hr2⟩ := hv2
  obtain ⟨b, off, rfl, hb, hcell⟩ := hr2 (by decide)
  have d0 := hcell 0 (by decide)
  have d1 := hcell 2 (by decide)
  have d2 := hcell 4 (by decide)
  have d3 := hcell 6 (by decide)
  rw [show ndc [(5, 1), (2, 1), (3, 1), (1, 1)] 0 = .int .i64 5 from rfl] at d0
  rw [show ndc [(5, 1), (2, 1), (3, 1), (1, 1)] 2 = .int .i64 2 from rfl] at d1
  rw [show ndc [(5, 1), (2, 1), (3, 1), (1, 1)] 4 = .int .i64 3 from rfl] at d2
  rw [show ndc [(5, 1), (2, 1), (3, 1), (1, 1)] 6 = .int .i64 1 from rfl] at d3
  rw [Nat.add_zero] at d0
  have hS := fun W : World => fun hW : Below w1.heap.size w1 W => ref06_same A1 (some ⟨W.heap.size, 0, none⟩) c1 2 [(3, 1), (5, 6)] [(3, 1), (5, 6)] _ ((hr1.kept hW).alloc _) (lit_rd [(3, 1), (5, 6)] W 43) (by decide) (by decide)
  rw [decide_eq_true rfl] at hS
  replace hS := hide hS
  have hb3 := bthen (balloc0 w1 _) hb2
  have hb4 := bthen (balloc0 w _) hb1
  have hb5 := bthen hb4 hb3
  clear hr1 hcell h1 h2 hb1 hb2
  go_wp2_with fail
  refine (hS.out _ hb3).mono ?_
  rintro e w3 ⟨rfl, hb6⟩
  have hb7 := bthen (balloc0 w2 _) hb6
  replace d0 := (hb7.cell (p := ⟨b, off, none⟩) hb).trans d0
  replace d1 := (hb7.cell (p := ⟨b, off + 2, none⟩) hb).trans d1
  replace d2 := (hb7.cell (p := ⟨b, off + 4, none⟩) hb).trans d2
  replace d3 := (hb7.cell (p := ⟨b, off + 6, none⟩) hb).trans d3
  have hb8 : b < w3.heap.size := Nat.lt_of_lt_of_le hb hb7.size
  go_wp2_with fail
  go_ret
  exact ⟨rfl, bthen hb5 hb7⟩
end Go.Proofs.Ytbfecpomlkapdaa

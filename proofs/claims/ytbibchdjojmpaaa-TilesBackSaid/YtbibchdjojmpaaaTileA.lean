/- Layer 5: the chapter's example. By the prover of this repo. -/
import Derived.Test.YtbibchdjojmpaaaTileRH
namespace Go.Proofs.Ytbibchdjojmpaaa
open Go.RowKit
open TwigM TileM

theorem ex_of : ofL 3 1 6 = [9, 5, 6, 14] := by
  have h : ofB 3 1 6 = true := by decide
  unfold ofL
  rw [if_pos h, ← lay_tiles (by omega) (by omega) (by omega) (by omega) (by decide)]
  decide +kernel
theorem ex_rest : restL 3 [9, 5, 6, 14] = [8, 15] := by
  have h : allB 3 [9, 5, 6, 14] = true := by decide +kernel
  have h2 : restR 3 0 (runsGo 3 [] [9, 5, 6, 14]) = [(0, 0), (7, 7)] := by decide +kernel
  unfold restL
  rw [if_pos h]
  unfold restT
  rw [h2]
  show tilesF 3 0 0 ++ (tilesF 3 7 7 ++ []) = _
  rw [← lay_tiles (by omega) (by omega) (by omega) (by omega) (by decide), ← lay_tiles (by omega) (by omega) (by omega) (by omega) (by decide)]
  decide +kernel

set_option maxRecDepth 100000 in
set_option maxHeartbeats 2000000 in
theorem alive05 (w : World) : Calls Try.prog 21 #[] w fun e w' => e = .returned (.bool true) ∧ Below w.heap.size w w' := by
  have h1 := tiles_of 3 1 6 w (by omega) (by omega)
  rw [ex_of, show ofB 3 1 6 = true by decide] at h1
  have h2 := fun A c W h hA => tiles_rest 3 A c [9, 5, 6, 14] W h hA (by decide)
  rw [ex_rest, show allB 3 [9, 5, 6, 14] = true by decide +kernel] at h2
  replace h1 := hide h1
  replace h2 := hide h2
  go_enter Try.func21, Try.ntmps21
  go_wp2_with (go_at_call 18; refine h1.out.mono ?_; rintro e w1 ⟨v1, rfl, hv1, hb1⟩; obtain ⟨A1, c1, rfl, hA1, _, _, hr1⟩ := hv1; have hr1 := hide hr1; have hb1 := hide hb1)
  refine (h2.out A1 c1 _ hr1.out hA1).mono ?_
  rintro e w2 ⟨v2, rfl, hv2, hb2⟩
  obtain ⟨A2, c2, rfl, hA2, _, _, hr2⟩ := hv2
  have hS1 := fun W : World => fun hW : Below w2.heap.size w2 W => same_ints A1 (some ⟨W.heap.size, 0, none⟩) c1 4 [9, 5, 6, 14] [9, 5, 6, 14] _ (((hr1.out.kept hb2).kept hW).alloc _) (lit_its [9, 5, 6, 14] W 3) (by decide) (by decide)
  have hS2 := fun W : World => fun hW : Below w2.heap.size w2 W => same_ints A2 (some ⟨W.heap.size, 0, none⟩) c2 2 [8, 15] [8, 15] _ ((hr2.kept hW).alloc _) (lit_its [8, 15] W 3) (by decide) (by decide)
  rw [decide_eq_true rfl] at hS1 hS2
  replace hS1 := hide hS1
  replace hS2 := hide hS2
  have hb3 := bthen hb1.out hb2
  clear hr1 hr2 h1 h2 hb1 hb2 hA1 hA2
  go_wp2_with fail
  refine (hS1.out _ (Below.refl _ _)).mono ?_
  rintro e w3 ⟨rfl, hb4⟩
  have hb5 := (balloc0 w2 _).trans (hb4.mono (by simp))
  go_wp2_with fail
  refine (hS2.out _ hb5).mono ?_
  rintro e w4 ⟨rfl, hb6⟩
  have hb7 := (balloc0 w3 _).trans (hb6.mono (by simp))
  go_wp2_with fail
  go_ret
  exact ⟨rfl, bthen (bthen hb3 hb5) hb7⟩
end Go.Proofs.Ytbibchdjojmpaaa

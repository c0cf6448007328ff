/- The walks of layer 6, on: slices.Grow of the nil slice. By the prover of this repo. -/
import Derived.Test.YtbfecpomlkapdaaRollG
import Derived.Lib.AppendZerosOnto
import Derived.Lib.SliceRun
namespace Go.Proofs.Ytbfecpomlkapdaa
open Go.RowKit
open TwigM RollM

set_option maxRecDepth 100000 in
set_option maxHeartbeats 4000000 in
theorem grow_nil (n : Nat) (w : World) (hl : n ≤ 1000000) : Calls Try.prog 73 #[.slice none 0 0, .int .i64 n] w fun e w' => ∃ v, e = .returned v ∧ w'.ownsRow w.heap.size 43 2 v 0 [] ∧ Below w.heap.size w w' := by
  by_cases h0 : n = 0
  · subst h0
    go_enter Try.func73, Try.ntmps73
    go_wp2_with fail
    go_ret
    exact ⟨_, rfl, World.ownsRow_nil _ _ _ _, Below.refl _ _⟩
  · obtain ⟨i, hi, hz, hs, hby⟩ := info_parts elNode.info
    have hap := Lib.run_append_grow_zeros (P := Try.prog) w 31 3 31 43 i (nv (0, 0)) .i64 .i64 Try.underlying31 Try.underlying3 hi hz none 0 0 [] (run_firstCells_none w.drew i.size 0 0 0) n (by omega) (by rw [hs]; omega) (by omega) (by omega) (by rw [hby]; omega) (by rw [hby, Nat.zero_add, nextslicecap_zero (by omega)]; omega)
    have hge := grownCap_ge w (0 + n) 0 43
    have hle := grownCap_le_maxLen w (0 + n) 0 43 (by unfold maxLen; omega)
    generalize grownCap w (0 + n) 0 43 = G at *
    have hown : Hid ((w.drew.alloc (.cells (([] : List Value).toArray ++ Builtin.zeroCells (nv (0, 0)).cells n ++ Builtin.zeroCells (nv (0, 0)).cells (G - (0 + n))) 43)).ownsRow w.heap.size 43 2 (.slice (some ⟨w.heap.size, 0, none⟩) 0 G) 0 []) := by
      refine ⟨by simp, .inr ⟨w.heap.size, G, _, rfl, Nat.le_refl _, heap_alloc_new w.drew _, Nat.zero_le _, hle, ?_, by simp⟩⟩
      rw [Array.size_append, Array.size_append, size_zeroCells, size_zeroCells, show (nv (0, 0)).cells.size = 2 from rfl]
      simp
      omega
    generalize Obj.cells (([] : List Value).toArray ++ Builtin.zeroCells (nv (0, 0)).cells n ++ Builtin.zeroCells (nv (0, 0)).cells (G - (0 + n))) 43 = o at *
    rw [Nat.zero_add] at hap hge
    replace hap := hide hap
    clear hi hz hs hby hle
    go_enter Try.func73, Try.ntmps73
    go_wp2_with (at_builtin; refine Lib.wpList_append_run _ rfl _ _ _ _ rfl _ _ rfl rfl _ _ hap.out ?_)
    go_ret
    exact ⟨_, rfl, hown.out, balloc (Below.refl _ _).drew _⟩
end Go.Proofs.Ytbfecpomlkapdaa

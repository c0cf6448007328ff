/- Layer 10: the chapter's example; a bag made both ways. By the prover of this repo. -/
import Derived.Test.YtkjihbaiofocgaaBagG
namespace Go.Proofs.Ytkjihbaiofocgaa
open Go.RowKit
attribute [local go_sem ↓] Go.wp_at_zero Go.wp_at_succ
open TwigM BagM

theorem ex_a1 : addF 3 [] 5 2 = ([(5, 2)], 0) := by decide +kernel
theorem ex_a2 : addF 3 [(5, 2)] 1 1 = ([(1, 1), (5, 2)], 0) := by decide +kernel
theorem ex_k : kthF [(1, 1), (5, 2)] 2 = (5, 0) := by decide +kernel
theorem ex_i : imageF 1 [(1, 1), (5, 2)] = [(0, 1), (2, 2)] := by decide +kernel
theorem ex_r : rank 4 [(1, 1), (5, 2)] = 1 := by decide +kernel
theorem lit_rd (l : List Rg) (w : World) (t : TypeId) : Rd (w.alloc (.cells (ndv l).toArray t)) (some ⟨w.heap.size, 0, none⟩) l.length 2 (ndc l) :=
  Rd.of_blk (Blk.made w t _) 0 (by simp [ndv_length]) (by intro i hi; rw [Nat.zero_add, List.getElem?_toArray]; exact ndv_get l i hi)

/-- What a call that adds leaves, from a bag of the caller's own on. -/
theorem bagged_own {W w w' : World} {g : Nat} {L : Int} {l : List Rg} {v : Value} (h : Bagged w g L l v w') (hb : Below W.heap.size W w) (hf : ∀ j, Foot g v j → W.heap.size ≤ j) :
    ∃ v', BagAt w' g L l v' ∧ Below W.heap.size W w' ∧ ∀ j, Foot g v' j → W.heap.size ≤ j := by
  obtain ⟨v', h1, h2, h3⟩ := h
  have hs := hb.size
  refine ⟨v', h1, hb.trans (h2.below _ hs fun j hj e => by have := hf j e; omega), fun j hj => ?_⟩
  rcases hj with rfl | hj
  · exact hf j (.inl rfl)
  · rcases h3 j hj with e | e
    · exact hf j (.inr e)
    · omega
theorem foot_nil {W : World} {g : Nat} (h : W.heap.size ≤ g) : ∀ j, Foot g (.slice none 0 0) j → W.heap.size ≤ j := fun j hj => by
  rcases hj with rfl | hj
  · exact h
  · cases hj

set_option maxRecDepth 100000 in
set_option maxHeartbeats 4000000 in
theorem alive10 (w : World) : Calls Try.prog 9 #[] w fun e w' => e = .returned (.bool true) ∧ Below w.heap.size w w' := by
  have h0 := hide (new_yes 3 w (by omega) (by omega))
  go_enter Try.func9, Try.ntmps9
  go_wp2_with fail
  refine h0.out.mono ?_
  rintro e w1 ⟨rfl, hB1, hb1⟩
  have hok0 : Ok [] := Ok.nil
  have h1 := add_c 5 2 _ 3 [] _ w1 hB1 Ok.nil (by simp) (by omega) (by omega) (by omega)
  rw [ex_a1] at h1
  replace h1 := hide h1
  have hf1 := hide (foot_nil (W := w) (g := w.heap.size) (Nat.le_refl _))
  go_wp2_with fail
  refine h1.out.mono ?_
  rintro e w2 ⟨rfl, hg2⟩
  obtain ⟨v2, hB2, hb2, hf2⟩ := bagged_own hg2 hb1 hf1.out
  have hok1 := hok0.put 5 2 (by omega) (by decide)
  have h2 := add_c 1 1 _ 3 [(5, 2)] _ w2 hB2 hok1 (by simp) (by omega) (by omega) (by omega)
  rw [ex_a2] at h2
  replace h2 := hide h2
  replace hf2 := hide hf2
  clear hB1 hg2 hB2
  go_wp2_with fail
  refine h2.out.mono ?_
  rintro e w3 ⟨rfl, hg3⟩
  obtain ⟨v3, hB3, hb3, hf3⟩ := bagged_own hg3 hb2 hf2.out
  have hok2 := hok1.put 1 1 (by omega) (by decide)
  have hin2 := ((In.nil 3).put 5 2 (by omega) (by decide)).put 1 1 (by omega) (by decide)
  have e2 : put 1 1 (put 5 2 []) = [(1, 1), (5, 2)] := by decide +kernel
  rw [e2] at hok2 hin2
  have h3 := kth_c 2 _ 3 [(1, 1), (5, 2)] _ w3 hB3 hok2 (by decide) (by omega)
  rw [ex_k] at h3
  have h4 := image_yes 1 _ 3 [(1, 1), (5, 2)] _ w3 hB3 hok2 hin2 (by decide) (by omega) (by omega)
  rw [ex_i] at h4
  have h5 := fun W (hW : Below w3.heap.size w3 W) => rank_c 4 _ 3 [(1, 1), (5, 2)] _ W (hB3.kept hW) hok2 hin2 (by decide)
  rw [ex_r] at h5
  replace h3 := hide h3
  replace h4 := hide h4
  replace h5 := hide h5
  clear hg3 hB3 hok0 hok1 hok2 hin2 e2
  go_wp2_with fail
  refine h3.out.mono ?_
  rintro e w4 ⟨rfl, rfl⟩
  go_wp2_with fail
  refine h4.out.mono ?_
  rintro e w5 ⟨g5, v5, rfl, hB5, hb5, hf5⟩
  go_wp2_with fail
  refine (h5.out _ hb5).mono ?_
  rintro e w6 ⟨rfl, hb6⟩
  have h6 := hide (items_c g5 _ _ _ v5 w6 (hB5.kept hb6) (by decide))
  clear hB5 hf5
  go_wp2_with fail
  refine h6.out.mono ?_
  rintro e w7 ⟨u7, rfl, hu7, hb7⟩
  have hn7 := own_nds hu7
  obtain ⟨A7, c7, rfl, _, _, _⟩ := own_form hu7
  have h7 := same_n [(0, 1), (2, 2)] [(0, 1), (2, 2)] (w7.alloc (.cells #[.int .i64 0, .int .i64 1, .int .i64 2, .int .i64 2] 31)) _ (.slice (some ⟨w7.heap.size, 0, none⟩) 2 2) (by decide) (by decide) (hn7.kept (balloc0 _ _)) ⟨_, _, rfl, (fun h => by cases h), by decide, by unfold maxLen; omega, lit_rd [(0, 1), (2, 2)] w7 31⟩
  rw [decide_eq_true rfl] at h7
  replace h7 := hide h7
  clear hu7 hn7
  go_wp2_with fail
  refine h7.out.mono ?_
  rintro e w8 ⟨rfl, hb8⟩
  go_wp2_with fail
  go_ret
  exact ⟨rfl, bthen (bthen hb3 (bthen (bthen hb5 hb6) hb7)) (bthen (balloc0 _ _) hb8)⟩
end Go.Proofs.Ytkjihbaiofocgaa

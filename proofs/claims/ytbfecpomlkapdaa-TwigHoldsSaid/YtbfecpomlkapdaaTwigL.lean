/- The walks of the laws of layer 2 that hold the program against the document: TwigMeets, TwigTells, TwigMoves, TwigSteps. By the prover of this repo. -/
import Derived.Test.YtbfecpomlkapdaaTwigW2
import Derived.Test.YtbfecpomlkapdaaTwigR3
namespace Go.Proofs.Ytbfecpomlkapdaa
open Go.RowKit
open TwigM

theorem ends_35 : endsF 3 5 = (2, 3, true) := by decide +kernel
theorem depth_5 : depthF 5 = (2, true) := by decide +kernel
theorem leaf_36 : leafF 3 6 = (14, true) := by decide +kernel
theorem meet_1012 : meetF 10 12 = (1, true) := by simp [meetF, meetN]

theorem below_n {w : World} (n : Nat) : Below w.heap.size w (w.drewN n) := below_drewN (Below.refl _ _) n

theorem alive02 (w : World) : Calls Try.prog 18 #[] w fun e w' => e = .returned (.bool true) ∧ Below w.heap.size w w' := by
  go_enter Try.func18, Try.ntmps18
  go_wp2_with fail
  refine (ends_c 3 5 _).mono ?_
  rw [ends_35]
  rintro e w' ⟨rfl, n, rfl⟩
  go_wp2_with fail
  refine (depth_c 5 _ (by omega)).mono ?_
  rw [depth_5]
  rintro e w' ⟨rfl, rfl⟩
  go_wp2_with fail
  refine (leaf_c 3 6 _ (by omega)).mono ?_
  rw [leaf_36]
  rintro e w' ⟨rfl, rfl⟩
  go_wp2_with fail
  refine (meet_c 10 12 _ (by omega) (by omega)).mono ?_
  rw [meet_1012]
  rintro e w' ⟨rfl, rfl⟩
  go_wp2_with fail
  go_ret
  exact ⟨rfl, below_n n⟩

theorem twigMeets_walk (a b : Int) (w : World) (ha : -9223372036854775808 ≤ a ∧ a ≤ 9223372036854775807) (hb : -9223372036854775808 ≤ b ∧ b ≤ 9223372036854775807) :
    Calls Try.prog 3 #[.int .i64 a, .int .i64 b] w fun e w' => e = .returned (.bool true) ∧ Below w.heap.size w w' := by
  go_enter Try.func3, Try.ntmps3
  go_wp2_with fail
  refine (meet_c a b _ ha.2 hb.2).mono ?_
  rintro e w' ⟨rfl, rfl⟩
  go_wp2_with fail
  refine (rmeet_c a b _ ha.2 hb.2).mono ?_
  rintro e w' ⟨rfl, rfl⟩
  go_wp2_with fail
  refine (above_c a b _ ha.2 hb.2).mono ?_
  rintro e w' ⟨rfl, rfl⟩
  go_wp2_with fail
  refine (rabove_c a b _ ha.2 hb.2 hb.1).mono ?_
  rintro e w' ⟨rfl, rfl⟩
  go_wp2_with fail
  refine (alive02 _).mono ?_
  rintro e w1 ⟨rfl, hb1⟩
  go_wp2_with fail
  go_ret
  exact ⟨rfl, hb1⟩

set_option maxHeartbeats 400000 in
theorem twigTells_walk (l id x : Int) (w : World) (_hl : -9223372036854775808 ≤ l ∧ l ≤ 9223372036854775807) (hid : -9223372036854775808 ≤ id ∧ id ≤ 9223372036854775807) (hx : -9223372036854775808 ≤ x ∧ x ≤ 9223372036854775807) :
    Calls Try.prog 4 #[.int .i64 l, .int .i64 id, .int .i64 x] w fun e w' => e = .returned (.bool true) ∧ Below w.heap.size w w' := by
  go_enter Try.func4, Try.ntmps4
  go_wp2_with fail
  refine (leaf_c l x _ hx.2).mono ?_
  rintro e w' ⟨rfl, rfl⟩
  go_wp2_with fail
  refine (rleaf_c l x _ hx.2).mono ?_
  rintro e w' ⟨rfl, rfl⟩
  go_wp2_with fail
  refine (value_c l id _ hid.2).mono ?_
  rintro e w' ⟨rfl, rfl⟩
  go_wp2_with fail
  refine (rvalue_c l id _ hid.2).mono ?_
  rintro e w' ⟨rfl, rfl⟩
  go_wp2_with fail
  refine (depth_c id _ hid.2).mono ?_
  rintro e w' ⟨rfl, rfl⟩
  go_wp2_with fail
  refine (rdepth_c id _ hid.2).mono ?_
  rintro e w' ⟨rfl, rfl⟩
  go_wp2_with fail
  refine (ends_c l id _).mono ?_
  rintro e w' ⟨rfl, n, rfl⟩
  go_wp2_with fail
  refine (rends_c l id _ hid.2).mono ?_
  rintro e w' ⟨rfl, rfl⟩
  go_wp2_with fail
  refine (right_c l id _).mono ?_
  rintro e w' ⟨rfl, rfl⟩
  go_wp2_with fail
  refine (rright_c l id _ hid.2).mono ?_
  rintro e w' ⟨rfl, rfl⟩
  go_wp2_with fail
  refine (alive02 _).mono ?_
  rintro e w1 ⟨rfl, hb1⟩
  go_wp2_with fail
  go_ret
  exact ⟨rfl, bthen (below_n n) hb1⟩

theorem twigSteps_walk (l id by_ : Int) (w : World) (_hl : -9223372036854775808 ≤ l ∧ l ≤ 9223372036854775807) (hid : -9223372036854775808 ≤ id ∧ id ≤ 9223372036854775807) (_hx : -9223372036854775808 ≤ by_ ∧ by_ ≤ 9223372036854775807) :
    Calls Try.prog 8 #[.int .i64 l, .int .i64 id, .int .i64 by_] w fun e w' => e = .returned (.bool true) ∧ Below w.heap.size w w' := by
  go_enter Try.func8, Try.ntmps8
  go_wp2_with fail
  refine (up_c id by_ _ hid.2).mono ?_
  rintro e w' ⟨rfl, rfl⟩
  go_wp2_with fail
  refine (rup_c id by_ _ hid.2).mono ?_
  rintro e w' ⟨rfl, rfl⟩
  go_wp2_with fail
  refine (pair_c id _ hid.2).mono ?_
  rintro e w' ⟨rfl, rfl⟩
  go_wp2_with fail
  refine (rpair_c id _ hid.2).mono ?_
  rintro e w' ⟨rfl, rfl⟩
  go_wp2_with fail
  refine (kids_c l id _).mono ?_
  rintro e w' ⟨rfl, rfl⟩
  go_wp2_with fail
  refine (rkids_c l id _ hid.2).mono ?_
  rintro e w' ⟨rfl, rfl⟩
  go_wp2_with fail
  refine (alive02 _).mono ?_
  rintro e w1 ⟨rfl, hb1⟩
  go_wp2_with fail
  go_ret
  exact ⟨rfl, hb1⟩

theorem twigMoves_walk (id by_ depth : Int) (w : World) (hid : -9223372036854775808 ≤ id ∧ id ≤ 9223372036854775807) (hb : -9223372036854775808 ≤ by_ ∧ by_ ≤ 9223372036854775807) (hd : -9223372036854775808 ≤ depth ∧ depth ≤ 9223372036854775807) :
    Calls Try.prog 6 #[.int .i64 id, .int .i64 by_, .int .i64 depth] w fun e w' => e = .returned (.bool true) ∧ Below w.heap.size w w' := by
  go_enter Try.func6, Try.ntmps6
  go_wp2_with fail
  refine (graft_c id by_ _ hid.2 hb.2 hb.1).mono ?_
  rintro e w' ⟨rfl, n, rfl⟩
  go_wp2_with fail
  refine (rgraft_c id by_ _ hid.2 hb.2 hb.1).mono ?_
  rintro e w' ⟨rfl, rfl⟩
  go_wp2_with fail
  refine (prune_c id depth _ hid.2 hd.2).mono ?_
  rintro e w' ⟨rfl, rfl⟩
  go_wp2_with fail
  refine (rprune_c id depth _ hid.2 hd.2).mono ?_
  rintro e w' ⟨rfl, rfl⟩
  go_wp2_with fail
  refine (alive02 _).mono ?_
  rintro e w1 ⟨rfl, hb1⟩
  go_wp2_with fail
  go_ret
  exact ⟨rfl, bthen (below_n n) hb1⟩
end Go.Proofs.Ytbfecpomlkapdaa

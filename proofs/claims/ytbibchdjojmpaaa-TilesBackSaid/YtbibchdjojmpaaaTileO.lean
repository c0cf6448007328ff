/- The walks of layer 5, on: the fewest tiles of a run. By the prover of this repo. -/
import Derived.Test.YtbibchdjojmpaaaTileW
import Derived.Laws.EntriesVeiled
namespace Go.Proofs.Ytbibchdjojmpaaa
open Go.RowKit
open TwigM TileM

def ofB (L a b : Int) : Bool := decide (1 ≤ L ∧ L ≤ 48 ∧ 0 ≤ a ∧ a ≤ b ∧ b < pw L)
def ofL (L a b : Int) : List Int := if ofB L a b = true then tilesF L a b else []
theorem ofL_length (L a b : Int) : (ofL L a b).length ≤ 96 := by
  unfold ofL
  split
  · rename_i h
    have h := of_decide_eq_true h
    have := tiles_length h.1 h.2.1 h.2.2.1 h.2.2.2.1 h.2.2.2.2
    omega
  · simp

theorem lay_start (w : World) (L a b : Int) : LaySt w.heap.size L a b [] (((((w.alloc (.cells #[.int .i64 L] 3)).alloc (.cells #[.int .i64 a] 3)).alloc (.cells #[.int .i64 b] 3)).alloc (.cells #[.slice none 0 0] 37)).alloc
    (.cells #[.func (.func 40) #[] #[.pointer (some ⟨w.heap.size, 0, none⟩), .pointer (some ⟨w.heap.size + 1, 0, none⟩), .pointer (some ⟨w.heap.size + 2, 0, none⟩), .pointer (some ⟨w.heap.size + 3, 0, none⟩), .pointer (some ⟨w.heap.size + 4, 0, none⟩)]] 54)) := by
  refine ⟨?_, ?_, ?_, ⟨.slice none 0 0, ?_, World.ownsRow_nil _ _ _ _⟩, ?_⟩
  · exact ((((Blk.made w _ _).alloc _).alloc _).alloc _).alloc _
  · exact (((Blk.made_at (w.alloc _) _ _ (by simp)).alloc _).alloc _).alloc _
  · exact ((Blk.made_at ((w.alloc _).alloc _) _ _ (by simp)).alloc _).alloc _
  · exact (Blk.made_at (((w.alloc _).alloc _).alloc _) _ _ (by simp)).alloc _
  · exact Blk.made_at ((((w.alloc _).alloc _).alloc _).alloc _) _ _ (by simp)

set_option maxRecDepth 100000 in
set_option maxHeartbeats 1000000 in
theorem tiles_of (L a b : Int) (w : World) (ha : -9223372036854775808 ≤ a ∧ a ≤ 9223372036854775807) (hb : -9223372036854775808 ≤ b ∧ b ≤ 9223372036854775807) :
    Calls Try.prog 18 #[.int .i64 L, .int .i64 a, .int .i64 b] w fun e w' => ∃ v, e = .returned (.tuple #[v, .bool (ofB L a b)]) ∧ Its w' v (ofL L a b) ∧ Below w.heap.size w w' := by
  have hA := fun W => leaf_c L a W ha.2
  have hB := fun W => leaf_c L b W hb.2
  by_cases h : 1 ≤ L ∧ L ≤ 48 ∧ 0 ≤ a ∧ a ≤ b ∧ b < pw L
  · have e : ofB L a b = true := decide_eq_true h
    have el : Hid (ofL L a b = lay L a b L.toNat 1) := by
      show _ = _
      unfold ofL
      rw [if_pos e, lay_tiles h.1 h.2.1 h.2.2.1 h.2.2.2.1 h.2.2.2.2]
    have hlen := ofL_length L a b
    rw [el.out] at hlen ⊢
    rw [e]
    unfold leafF at hA hB
    rw [if_pos (by omega)] at hA hB
    have hl := fun W hS => lay_c w.heap.size L a b L.toNat 1 [] W (Nd.root h.1 h.2.1) (by rw [lg_one]; omega) (by simp; omega) hS
    replace hA := hide hA
    replace hB := hide hB
    replace hl := hide hl
    have hab := h.2.2.2.1
    have hp : pw L ≤ 281474976710656 := pw_le48 h.2.1
    clear e el h
    go_enter Try.func18, Try.ntmps18
    go_wp2_with (go_at_call 39; first
      | (with_reducible refine (hA.out _).mono ?_; rintro e w1 ⟨rfl, rfl⟩)
      | (with_reducible refine (hB.out _).mono ?_; rintro e w1 ⟨rfl, rfl⟩))
    refine (hl.out _ (lay_start w L a b)).mono ?_
    rintro e w1 ⟨rfl, hS, hb1⟩
    obtain ⟨vo, hvo, how⟩ := hS.out
    have c3 := hvo.cell 0
    simp only [List.getElem?_toArray, List.getElem?_cons_zero] at c3
    replace hS := hide hS
    replace hvo := hide hvo
    rw [List.nil_append] at how
    replace how := hide how
    go_wp2_with fail
    go_ret2
    exact ⟨vo, rfl, own_its rfl how.out, ((((((Below.refl w.heap.size w).alloc (Nat.le_refl _) _).alloc (by simp) _).alloc (by simp; omega) _).alloc (by simp; omega) _).alloc (by simp; omega) _).trans hb1⟩
  · have e : ofB L a b = false := decide_eq_false h
    have el : ofL L a b = [] := by unfold ofL; rw [if_neg (by rw [e]; decide)]
    rw [e, el]
    have hw : Below w.heap.size w (((w.alloc (.cells #[.int .i64 L] 3)).alloc (.cells #[.int .i64 a] 3)).alloc (.cells #[.int .i64 b] 3)) := (((Below.refl w.heap.size w).alloc (Nat.le_refl _) _).alloc (by simp) _).alloc (by simp; omega) _
    replace hw := hide hw
    by_cases hx : 1 ≤ L ∧ L ≤ 48 ∧ 0 ≤ a ∧ a < pw L
    · have hA2 : leafF L a = (pw L + a, true) := if_pos hx
      rw [hA2] at hA
      by_cases hy : 1 ≤ L ∧ L ≤ 48 ∧ 0 ≤ b ∧ b < pw L
      · have hB2 : leafF L b = (pw L + b, true) := if_pos hy
        rw [hB2] at hB
        have hba : b < a := by omega
        replace hA := hide hA
        replace hB := hide hB
        clear e el h hx hy hA2 hB2
        go_enter Try.func18, Try.ntmps18
        go_wp2_with (go_at_call 39; first
          | (with_reducible refine (hA.out _).mono ?_; rintro e w1 ⟨rfl, rfl⟩)
          | (with_reducible refine (hB.out _).mono ?_; rintro e w1 ⟨rfl, rfl⟩))
        go_ret2
        exact ⟨_, rfl, Its.nil _, hw.out⟩
      · have hB2 : leafF L b = (0, false) := if_neg hy
        rw [hB2] at hB
        replace hA := hide hA
        replace hB := hide hB
        clear e el h hx hy hA2 hB2
        go_enter Try.func18, Try.ntmps18
        go_wp2_with (go_at_call 39; first
          | (with_reducible refine (hA.out _).mono ?_; rintro e w1 ⟨rfl, rfl⟩)
          | (with_reducible refine (hB.out _).mono ?_; rintro e w1 ⟨rfl, rfl⟩))
        go_ret2
        exact ⟨_, rfl, Its.nil _, hw.out⟩
    · have hA2 : leafF L a = (0, false) := if_neg hx
      rw [hA2] at hA
      generalize leafF L b = q at hB
      obtain ⟨q1, q2⟩ := q
      replace hA := hide hA
      replace hB := hide hB
      clear e el h hx hA2
      go_enter Try.func18, Try.ntmps18
      go_wp2_with (go_at_call 39; first
        | (with_reducible refine (hA.out _).mono ?_; rintro e w1 ⟨rfl, rfl⟩)
        | (with_reducible refine (hB.out _).mono ?_; rintro e w1 ⟨rfl, rfl⟩))
      go_ret2
      exact ⟨_, rfl, Its.nil _, hw.out⟩
end Go.Proofs.Ytbibchdjojmpaaa

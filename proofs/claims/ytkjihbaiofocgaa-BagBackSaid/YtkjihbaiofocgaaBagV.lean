/- The walks of layer 10's reference, on: added; the bag of readings. By the prover of this repo. -/
import Derived.Test.YtkjihbaiofocgaaBagQ
import Derived.Test.YtkjihbaiofocgaaBagU
namespace Go.Proofs.Ytkjihbaiofocgaa
open Go.RowKit
open TwigM BagM

theorem Nds.turned {S : Nat → Prop} {w w1 : World} {v : Value} {l : List Rg} (h : Nds w v l) (k : Turn S w w1) (hn : ∀ j, v.ownBlock = some j → ¬ S j) : Nds w1 v l := by
  obtain ⟨A, c, rfl, h1, h2, h3, hr⟩ := h
  refine ⟨A, c, rfl, h1, h2, h3, fun h0 => ?_⟩
  obtain ⟨b, off, rfl, hb, hc⟩ := hr h0
  have hs := k.size
  exact ⟨b, off, rfl, by omega, fun i hi => (World.cell?_of_block (a := ⟨b, off + i, none⟩) (k.block b hb (hn b rfl))).trans (hc i hi)⟩
/-- What hands back a bag of the reference and an error: its readings lie where they lay, or in a new block. -/
def RGives (w : World) (L : Int) (v : Value) (l : List Rg) (r : Int) (e : Ending) (w' : World) : Prop :=
  ∃ v', e = .returned (.tuple #[rb L v', .int .i64 r]) ∧ Nds w' v' l ∧ Below w.heap.size w w' ∧ ∀ j, v'.ownBlock = some j → j < w'.heap.size ∧ (v.ownBlock = some j ∨ w.heap.size ≤ j)
theorem rg_same {w w' : World} {L : Int} {v : Value} {l : List Rg} {r : Int} (hn : Nds w' v l) (hb : Below w.heap.size w w') (hvb : ∀ j, v.ownBlock = some j → j < w.heap.size) : RGives w L v l r (.returned (.tuple #[rb L v, .int .i64 r])) w' :=
  ⟨v, rfl, hn, hb, fun j h => ⟨Nat.lt_of_lt_of_le (hvb j h) hb.size, .inl h⟩⟩

set_option maxRecDepth 100000 in
set_option maxHeartbeats 1000000 in
theorem radd_c (x n : Int) (L : Int) (l : List Rg) (v : Value) (w : World) (hv : Nds w v l) (ho : Ok l) (hl : l.length ≤ 100000) (hL : 1 ≤ L ∧ L ≤ 48) (hvb : ∀ j, v.ownBlock = some j → j < w.heap.size) :
    Calls Try.prog 11 #[rb L v, .int .i64 x, .int .i64 n] w (RGives w L v (addF L l x n).1 (addF L l x n).2) := by
  have hP := hide (fun W => rpower L W (by omega))
  have hT := hide (fun W (hW : Below w.heap.size w W) => rtotal_c L l v W (hv.kept hW) ho (by omega))
  have hQ := fun (h1 : 1 ≤ n) (h2 : n ≤ 72057594037927935 - tot l) => hide (fun W (hW : Below w.heap.size w W) => rput_c x n L l v W (hv.kept hW) ho hl ⟨h1, h2⟩)
  have hkept := hide (fun W (hW : Below w.heap.size w W) => hv.kept hW)
  have hm := ho.most
  have ht0 := tot_nonneg l ho.pos
  replace hvb := hide hvb
  obtain ⟨A, c, rfl, -, -, -, -⟩ := hv
  by_cases h0 : x < 0
  · have hF : Hid (addF L l x n = (l, 3)) := by show _ = _; unfold addF; rw [if_pos (.inl h0)]
    rw [hF.out]
    clear ho hQ
    generalize l.length = ln at *
    go_enter Try.func11, Try.ntmps11
    go_wp2_with fail
    refine bodyPost_ret (v := .tuple #[rb L (.slice A ln c), .int .i64 3]) (by simp [results, Try.results11, go_sem]) rfl ?_
    exact rg_same (hkept.out _ (balloc (balloc0 _ _) _)) (balloc (balloc0 _ _) _) hvb.out
  by_cases h1 : pw L ≤ x
  · have hF : Hid (addF L l x n = (l, 3)) := by show _ = _; unfold addF; rw [if_pos (.inr h1)]
    rw [hF.out]
    clear ho hQ
    generalize pw L = pL at *
    generalize l.length = ln at *
    go_enter Try.func11, Try.ntmps11
    go_wp2_with (go_at_call 35; refine (hP.out _).mono ?_; rintro e w1 ⟨rfl, rfl⟩)
    refine bodyPost_ret (v := .tuple #[rb L (.slice A ln c), .int .i64 3]) (by simp [results, Try.results11, go_sem]) rfl ?_
    exact rg_same (hkept.out _ (balloc (balloc0 _ _) _)) (balloc (balloc0 _ _) _) hvb.out
  by_cases h2 : n < 1
  · have hF : Hid (addF L l x n = (l, 4)) := by show _ = _; unfold addF; rw [if_neg (by omega), if_pos h2]
    rw [hF.out]
    clear ho hQ
    generalize pw L = pL at *
    generalize l.length = ln at *
    go_enter Try.func11, Try.ntmps11
    go_wp2_with (go_at_call 35; refine (hP.out _).mono ?_; rintro e w1 ⟨rfl, rfl⟩)
    refine bodyPost_ret (v := .tuple #[rb L (.slice A ln c), .int .i64 4]) (by simp [results, Try.results11, go_sem]) rfl ?_
    exact rg_same (hkept.out _ (balloc (balloc0 _ _) _)) (balloc (balloc0 _ _) _) hvb.out
  have hA := (Blk.made w 29 #[.int .i64 L, .slice A l.length c]).alloc (.cells #[.int .i64 0, .slice none 0 0] 29)
  have hB := Blk.made_at (w.alloc (.cells #[.int .i64 L, .slice A l.length c] 29)) 29 #[.int .i64 0, .slice none 0 0] (g := w.heap.size + 1) (by simp)
  have hb0 : Below w.heap.size w ((w.alloc (.cells #[.int .i64 L, .slice A l.length c] 29)).alloc (.cells #[.int .i64 0, .slice none 0 0] 29)) := balloc (balloc0 _ _) _
  have hfacts : Hid (∀ w1, Below ((w.alloc (.cells #[.int .i64 L, .slice A l.length c] 29)).alloc (.cells #[.int .i64 0, .slice none 0 0] 29)).heap.size ((w.alloc (.cells #[.int .i64 L, .slice A l.length c] 29)).alloc (.cells #[.int .i64 0, .slice none 0 0] 29)) w1 →
      (w1.cell? ⟨w.heap.size, 0, none⟩ = some (.int .i64 L) ∧ w1.cell? ⟨w.heap.size, 1, none⟩ = some (.slice A l.length c) ∧ w.heap.size + 1 < w1.heap.size ∧
      w1.cell? ⟨w.heap.size + 1, 0, none⟩ = some (.int .i64 0) ∧ w1.cell? ⟨w.heap.size + 1, 1, none⟩ = some (.slice none 0 0) ∧ w1.frozen? ⟨w.heap.size + 1, 0, none⟩ = false ∧ w1.frozen? ⟨w.heap.size + 1, 1, none⟩ = false) ∧ Below w.heap.size w w1) := fun w1 hb1 => by
    have hA1 := hA.kept hb1
    have hB1 := hB.kept hb1
    exact ⟨⟨by rw [hA1.cell]; rfl, by rw [hA1.cell]; rfl, hB1.lt, by rw [hB1.cell]; rfl, by rw [hB1.cell]; rfl, hB1.free 0, hB1.free 1⟩, hb0.trans (hb1.mono hb0.size)⟩
  obtain ⟨t, ht⟩ : ∃ t, Hid (tot l = t) := ⟨_, rfl⟩
  rw [ht.out] at hT hQ ht0 hm
  by_cases h3 : 72057594037927935 - t < n
  · have hF : Hid (addF L l x n = (l, 5)) := by show _ = _; unfold addF; rw [ht.out, if_neg (by omega), if_neg h2, if_pos h3]
    rw [hF.out]
    clear ho hQ hA hB hb0
    generalize pw L = pL at *
    generalize l.length = ln at *
    go_enter Try.func11, Try.ntmps11
    go_wp2_with (first
      | (go_at_call 35; refine (hP.out _).mono ?_; rintro e w1 ⟨rfl, rfl⟩)
      | (go_at_call 36; refine (hT.out _ (balloc (balloc0 _ _) _)).mono ?_; rintro e w1 ⟨rfl, hb1⟩; obtain ⟨⟨a0, a1, a2, b0, b1, b2, b3⟩, hb2⟩ := hfacts.out _ hb1; have a3 : w.heap.size < w1.heap.size := (by omega)))
    refine bodyPost_ret (v := .tuple #[rb L (.slice A ln c), .int .i64 5]) (by simp [results, Try.results11, go_sem, b0, b1]) rfl ?_
    exact rg_same (hkept.out _ ((hb2.setCell (by simp) _).setCell (by simp) _)) ((hb2.setCell (by simp) _).setCell (by simp) _) hvb.out
  · have hF : Hid (addF L l x n = (put x n l, 0)) := by show _ = _; unfold addF; rw [ht.out, if_neg (by omega), if_neg h2, if_neg h3]
    rw [hF.out]
    replace hQ := hQ (by omega) (by omega)
    clear ho hA hB hb0
    generalize pw L = pL at *
    generalize l.length = ln at *
    go_enter Try.func11, Try.ntmps11
    go_wp2_with (first
      | (go_at_call 35; refine (hP.out _).mono ?_; rintro e w1 ⟨rfl, rfl⟩)
      | (go_at_call 36; refine (hT.out _ (balloc (balloc0 _ _) _)).mono ?_; rintro e w1 ⟨rfl, hb1⟩; obtain ⟨⟨a0, a1, a2, b0, b1, b2, b3⟩, hb2⟩ := hfacts.out _ hb1; have a3 : w.heap.size < w1.heap.size := (by omega))
      | (go_at_call 37; refine (hQ.out _ hb2).mono ?_; rintro e w2 ⟨v2, rfl, hv2, hb3⟩; obtain ⟨A2, c2, rfl, _, _, _⟩ := own_form hv2; replace hv2 := hide hv2; clear a0 a1 a2 a3 b0 b1 b2 b3; obtain ⟨⟨a0, a1, a2, b0, b1, b2, b3⟩, hb4⟩ := hfacts.out _ (hb1.trans (hb3.mono hb1.size)); have a3 : w.heap.size < w2.heap.size := (by omega)))
    refine bodyPost_ret (v := .tuple #[rb L (.slice A2 (put x n l).length c2), .int .i64 0]) (by simp [results, Try.results11, go_sem, b0, b1]) rfl ?_
    have hsz := hb2.size
    have ho2 := hv2.out
    refine ⟨_, rfl, own_nds (own_turned ho2 ((Turn.setCell w2 (fun j => j = w.heap.size + 1) ⟨w.heap.size + 1, 0, none⟩ (.int .i64 L) rfl).trans (Turn.setCell _ (fun j => j = w.heap.size + 1) ⟨w.heap.size + 1, 1, none⟩ (.slice A2 (put x n l).length c2) rfl) fun _ _ h => h) fun j hj e => ?_), (hb4.setCell (by simp) _).setCell (by simp) _, fun j hj => ⟨by have := (ho2.lt j hj).2; simpa using this, .inr ?_⟩⟩
    · have := (ho2.lt j hj).1
      have := hb1.size
      simp only [World.size_alloc] at this
      omega
    · have := (ho2.lt j hj).1
      omega
end Go.Proofs.Ytkjihbaiofocgaa

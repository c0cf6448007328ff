/- Layer 10: where a value has its place in a bag; whether so much more may come; a new bag. By the prover of this repo. -/
import Derived.Test.YtkjihbaiofocgaaBagS
namespace Go.Proofs.Ytkjihbaiofocgaa
open Go.RowKit
open TwigM BagM

theorem BagT.at {w : World} {g : Nat} {L t : Int} {l : List Rg} {v : Value} (h : BagT w g L t l v) {i : Nat} (hi : i < l.length) :
    ∃ b c, v = .slice (some ⟨b, 0, none⟩) l.length c ∧ w.cell? ⟨b, i * 2, none⟩ = some (.int .i64 l[i].1) ∧ w.cell? ⟨b, i * 2 + 1, none⟩ = some (.int .i64 l[i].2) := by
  rcases h.own.2 with ⟨rfl, h0⟩ | ⟨b, cap, cur, rfl, _⟩
  · omega
  · refine ⟨b, cap, rfl, ?_, ?_⟩
    · rw [h.own.cellAt (i * 2) (by omega), ndv_get l _ (by omega)]
      have h1 : i * 2 % 2 = 0 := by omega
      have h2 : i * 2 / 2 = i := by omega
      simp [ndc, hi]
    · rw [h.own.cellAt (i * 2 + 1) (by omega), ndv_get l _ (by omega)]
      have h1 : (i * 2 + 1) % 2 = 1 := by omega
      have h2 : (i * 2 + 1) / 2 = i := by omega
      simp [ndc, h1, h2, hi]
theorem BagT.form {w : World} {g : Nat} {L t : Int} {l : List Rg} {v : Value} (h : BagT w g L t l v) : ∃ A c, v = .slice A l.length c := by
  obtain ⟨A, c, e, _⟩ := own_form h.own
  exact ⟨A, c, e⟩
theorem bag_cells {w : World} {g : Nat} {L t : Int} {l : List Rg} {v : Value} (h : BagT w g L t l v) :
    w.cell? ⟨g, 0, none⟩ = some (.int .i64 L) ∧ w.cell? ⟨g, 1, none⟩ = some (.int .i64 t) ∧ w.cell? ⟨g, 2, none⟩ = some v ∧ w.frozen? ⟨g, 1, none⟩ = false ∧ w.frozen? ⟨g, 2, none⟩ = false ∧ g < w.heap.size := by
  have hb := h.blk
  exact ⟨by rw [hb.cell]; rfl, by rw [hb.cell]; rfl, by rw [hb.cell]; rfl, hb.free _, hb.free _, hb.lt⟩

set_option maxRecDepth 100000 in
theorem place_test (x : Int) (gb gx g : Nat) (L t : Int) (l : List Rg) (v : Value) (w : World) (h : BagT w g L t l v) (hb : w.cell? ⟨gb, 0, none⟩ = some (.pointer (some ⟨g, 0, none⟩))) (hx : w.cell? ⟨gx, 0, none⟩ = some (.int .i64 x)) (i : Nat) (hi : i < l.length) (hl : l.length ≤ 1000000) :
    Calls Try.prog 51 #[.int .i64 i, .pointer (some ⟨gb, 0, none⟩), .pointer (some ⟨gx, 0, none⟩)] w fun e w' => e = .returned (.bool (decide (x ≤ l[i].1))) ∧ Below w.heap.size w w' := by
  obtain ⟨_, _, c2, _, _, hg⟩ := bag_cells h
  obtain ⟨b, c, rfl, d0, d1⟩ := h.at hi
  generalize hy : l[i].1 = y at d0 ⊢
  clear hy h d1
  have hn : (i : Int) < (l.length : Int) := by omega
  generalize l.length = n at *
  go_enter Try.func51, Try.ntmps51
  go_wp2_with fail
  go_quiet (fail)
  go_wp2_with fail
  go_ret
  exact ⟨rfl, below_drewN (Below.refl _ _) _⟩
set_option maxRecDepth 100000 in
theorem above_test (x : Int) (gb gx g : Nat) (L t : Int) (l : List Rg) (v : Value) (w : World) (h : BagT w g L t l v) (hb : w.cell? ⟨gb, 0, none⟩ = some (.pointer (some ⟨g, 0, none⟩))) (hx : w.cell? ⟨gx, 0, none⟩ = some (.int .i64 x)) (i : Nat) (hi : i < l.length) (hl : l.length ≤ 1000000) :
    Calls Try.prog 50 #[.int .i64 i, .pointer (some ⟨gb, 0, none⟩), .pointer (some ⟨gx, 0, none⟩)] w fun e w' => e = .returned (.bool (decide (x < l[i].1))) ∧ Below w.heap.size w w' := by
  obtain ⟨_, _, c2, _, _, hg⟩ := bag_cells h
  obtain ⟨b, c, rfl, d0, d1⟩ := h.at hi
  generalize hy : l[i].1 = y at d0 ⊢
  clear hy h d1
  have hn : (i : Int) < (l.length : Int) := by omega
  generalize l.length = n at *
  go_enter Try.func50, Try.ntmps50
  go_wp2_with fail
  go_quiet (fail)
  go_wp2_with fail
  go_ret
  exact ⟨rfl, below_drewN (Below.refl _ _) _⟩

theorem two_boxes (w : World) (a b : Value) (s t : TypeId) : ((w.alloc (.cells #[a] s)).alloc (.cells #[b] t)).cell? ⟨w.heap.size, 0, none⟩ = some a ∧ ((w.alloc (.cells #[a] s)).alloc (.cells #[b] t)).cell? ⟨w.heap.size + 1, 0, none⟩ = some b := by
  refine ⟨?_, ?_⟩
  · rw [((Blk.made w s #[a]).alloc (.cells #[b] t)).cell]; rfl
  · have := Blk.made (w.alloc (.cells #[a] s)) t #[b]
    rw [World.size_alloc] at this
    rw [this.cell]; rfl
set_option maxRecDepth 100000 in
theorem place_c (x : Int) (g : Nat) (L t : Int) (l : List Rg) (v : Value) (w : World) (h : BagT w g L t l v) (ho : Ok l) (hl : l.length ≤ 1000000) :
    Calls Try.prog 44 #[.pointer (some ⟨g, 0, none⟩), .int .i64 x] w fun e w' => e = .returned (.int .i64 (lo x l)) ∧ Below w.heap.size w w' := by
  have hs := search_lo (lo x l) l.length (.pointer (some ⟨w.heap.size, 0, none⟩)) (.pointer (some ⟨w.heap.size + 1, 0, none⟩)) ((w.alloc (.cells #[.pointer (some ⟨g, 0, none⟩)] 24)).alloc (.cells #[.int .i64 x] 3)) (lo_le x l) hl (by
    intro i hil W hW
    have hbx := two_boxes w (.pointer (some ⟨g, 0, none⟩)) (.int .i64 x) 24 3
    have hsz := hW.size
    have := place_test x w.heap.size (w.heap.size + 1) g L t l v W ((h.kept (balloc (balloc0 _ _) _)).kept hW) ((hW.cell (p := ⟨w.heap.size, 0, none⟩) (by simp only [World.size_alloc]; omega)).trans hbx.1) ((hW.cell (p := ⟨w.heap.size + 1, 0, none⟩) (by simp only [World.size_alloc]; omega)).trans hbx.2) i hil hl
    rwa [show decide (x ≤ l[i].1) = decide (lo x l ≤ i) from by rw [Bool.eq_iff_iff, lo_spec x l ho.rise i hil, decide_eq_true_eq]] at this)
  obtain ⟨_, _, c2, _, _, hg⟩ := bag_cells h
  obtain ⟨A, c, rfl⟩ := h.form
  generalize lo x l = k at *
  generalize l.length = n at *
  replace hs := hide hs
  clear h
  go_enter Try.func44, Try.ntmps44
  go_wp2_with fail
  refine hs.out.mono ?_
  rintro e w1 ⟨rfl, hb1⟩
  go_wp2_with fail
  go_ret
  exact ⟨rfl, bthen (balloc (balloc0 _ _) _) hb1⟩
set_option maxRecDepth 100000 in
theorem above_c (x : Int) (g : Nat) (L t : Int) (l : List Rg) (v : Value) (w : World) (h : BagT w g L t l v) (ho : Ok l) (hl : l.length ≤ 1000000) :
    Calls Try.prog 43 #[.pointer (some ⟨g, 0, none⟩), .int .i64 x] w fun e w' => e = .returned (.int .i64 (hi x l)) ∧ Below w.heap.size w w' := by
  have hs := search_hi (hi x l) l.length (.pointer (some ⟨w.heap.size, 0, none⟩)) (.pointer (some ⟨w.heap.size + 1, 0, none⟩)) ((w.alloc (.cells #[.pointer (some ⟨g, 0, none⟩)] 24)).alloc (.cells #[.int .i64 x] 3)) (hi_le x l) hl (by
    intro i hil W hW
    have hbx := two_boxes w (.pointer (some ⟨g, 0, none⟩)) (.int .i64 x) 24 3
    have hsz := hW.size
    have := above_test x w.heap.size (w.heap.size + 1) g L t l v W ((h.kept (balloc (balloc0 _ _) _)).kept hW) ((hW.cell (p := ⟨w.heap.size, 0, none⟩) (by simp only [World.size_alloc]; omega)).trans hbx.1) ((hW.cell (p := ⟨w.heap.size + 1, 0, none⟩) (by simp only [World.size_alloc]; omega)).trans hbx.2) i hil hl
    rwa [show decide (x < l[i].1) = decide (hi x l ≤ i) from by rw [Bool.eq_iff_iff, hi_spec x l ho.rise i hil, decide_eq_true_eq]] at this)
  obtain ⟨_, _, c2, _, _, hg⟩ := bag_cells h
  obtain ⟨A, c, rfl⟩ := h.form
  generalize hi x l = k at *
  generalize l.length = n at *
  replace hs := hide hs
  clear h
  go_enter Try.func43, Try.ntmps43
  go_wp2_with fail
  refine hs.out.mono ?_
  rintro e w1 ⟨rfl, hb1⟩
  go_wp2_with fail
  go_ret
  exact ⟨rfl, bthen (balloc (balloc0 _ _) _) hb1⟩

theorem reckon_counts (a b : Int) (w : World) : Calls Try.prog 52 #[.int .i64 a, .int .i64 b] w fun e w' => e = .returned (.bool (decide (0 ≤ a ∧ 0 ≤ b))) ∧ w = w' := by
  by_cases h : 0 ≤ a
  · by_cases h2 : 0 ≤ b
    · rw [decide_eq_true ⟨h, h2⟩]
      go_enter Try.func52, Try.ntmps52
      go_wp2_with fail
      go_ret
      exact ⟨rfl, rfl⟩
    · rw [decide_eq_false (fun k => h2 k.2)]
      go_enter Try.func52, Try.ntmps52
      go_wp2_with fail
      go_ret
      exact ⟨rfl, rfl⟩
  · rw [decide_eq_false (fun k => h k.1)]
    go_enter Try.func52, Try.ntmps52
    go_wp2_with fail
    go_ret
    exact ⟨rfl, rfl⟩
def addI (a b : Int) : Int × Bool := if 0 ≤ a ∧ 0 ≤ b ∧ a ≤ 9223372036854775807 - b then (a + b, true) else (0, false)
theorem reckon_add (a b : Int) (w : World) (ha : a ≤ 9223372036854775807) (hb : b ≤ 9223372036854775807) : Calls Try.prog 48 #[.int .i64 a, .int .i64 b] w fun e w' => e = .returned (nb (addI a b)) ∧ w = w' := by
  have hc := fun W => reckon_counts a b W
  unfold addI
  by_cases h : 0 ≤ a ∧ 0 ≤ b
  · rw [decide_eq_true h] at hc
    replace hc := hide hc
    obtain ⟨h0, h1⟩ := h
    by_cases h2 : a ≤ 9223372036854775807 - b
    · rw [if_pos ⟨h0, h1, h2⟩]
      go_enter Try.func48, Try.ntmps48
      go_wp2_with (go_at_call 52; refine (hc.out _).mono ?_; rintro e w1 ⟨rfl, rfl⟩)
      go_ret2
      exact ⟨rfl, rfl⟩
    · rw [if_neg (fun k => h2 k.2.2)]
      go_enter Try.func48, Try.ntmps48
      go_wp2_with (go_at_call 52; refine (hc.out _).mono ?_; rintro e w1 ⟨rfl, rfl⟩)
      go_ret2
      exact ⟨rfl, rfl⟩
  · rw [decide_eq_false h] at hc
    replace hc := hide hc
    rw [if_neg (fun k => h ⟨k.1, k.2.1⟩)]
    clear h
    go_enter Try.func48, Try.ntmps48
    go_wp2_with (go_at_call 52; refine (hc.out _).mono ?_; rintro e w1 ⟨rfl, rfl⟩)
    go_ret2
    exact ⟨rfl, rfl⟩

theorem room_c (n : Int) (g : Nat) (L : Int) (l : List Rg) (v : Value) (w : World) (h : BagAt w g L l v) (ho : Ok l) (hn : 0 ≤ n ∧ n ≤ 9223372036854775807) :
    Calls Try.prog 39 #[.pointer (some ⟨g, 0, none⟩), .int .i64 n] w fun e w' => e = .returned (.bool (decide (n ≤ 72057594037927935 - tot l))) ∧ w = w' := by
  obtain ⟨_, c1, _, _, _, hg⟩ := bag_cells h
  have ht0 := tot_nonneg l ho.pos
  have ht1 := ho.most
  generalize tot l = t at *
  have hA := fun W => reckon_add t n W (by omega) hn.2
  obtain ⟨hn0, hn1⟩ := hn
  clear h ho
  by_cases hb : n ≤ 72057594037927935 - t
  · rw [decide_eq_true hb]
    rw [show addI t n = (t + n, true) from if_pos (by omega)] at hA
    replace hA := hide hA
    have hle : t + n ≤ 72057594037927935 := by omega
    have hge : 0 ≤ t + n := by omega
    go_enter Try.func39, Try.ntmps39
    go_wp2_with (go_at_call 48; refine (hA.out _).mono ?_; rintro e w1 ⟨rfl, rfl⟩)
    go_ret
    exact ⟨rfl, rfl⟩
  · rw [decide_eq_false hb]
    have hle : 72057594037927935 < t + n := by omega
    by_cases h2 : t ≤ 9223372036854775807 - n
    · rw [show addI t n = (t + n, true) from if_pos (by omega)] at hA
      replace hA := hide hA
      go_enter Try.func39, Try.ntmps39
      go_wp2_with (go_at_call 48; refine (hA.out _).mono ?_; rintro e w1 ⟨rfl, rfl⟩)
      go_ret
      exact ⟨ret_congr (bool_false (by omega)), rfl⟩
    · rw [show addI t n = (0, false) from if_neg (by omega)] at hA
      replace hA := hide hA
      go_enter Try.func39, Try.ntmps39
      go_wp2_with (go_at_call 48; refine (hA.out _).mono ?_; rintro e w1 ⟨rfl, rfl⟩)
      go_ret
      exact ⟨rfl, rfl⟩

theorem bag_made (w : World) (L : Int) : BagAt (w.alloc (.cells #[.int .i64 L, .int .i64 0, .slice none 0 0] 67)) w.heap.size L [] (.slice none 0 0) :=
  ⟨Blk.made w _ _, World.ownsRow_nil _ _ _ _⟩
theorem new_yes (L : Int) (w : World) (h1 : 1 ≤ L) (h2 : L ≤ 48) :
    Calls Try.prog 10 #[.int .i64 L] w fun e w' => e = .returned (.tuple #[.pointer (some ⟨w.heap.size, 0, none⟩), .int .i64 0]) ∧ BagAt w' w.heap.size L [] (.slice none 0 0) ∧ Below w.heap.size w w' := by
  have hm := bag_made w L
  replace hm := hide hm
  go_enter Try.func10, Try.ntmps10
  go_wp2_with fail
  go_ret2
  exact ⟨rfl, hm.out, balloc0 _ _⟩
theorem new_no (L : Int) (w : World) (h : ¬ (1 ≤ L ∧ L ≤ 48)) :
    Calls Try.prog 10 #[.int .i64 L] w fun e w' => e = .returned (.tuple #[.pointer none, .int .i64 2]) ∧ w = w' := by
  by_cases h1 : 1 ≤ L
  · have h2 : ¬ L ≤ 48 := fun k => h ⟨h1, k⟩
    clear h
    go_enter Try.func10, Try.ntmps10
    go_wp2_with fail
    go_ret2
    exact ⟨rfl, rfl⟩
  · clear h
    go_enter Try.func10, Try.ntmps10
    go_wp2_with fail
    go_ret2
    exact ⟨rfl, rfl⟩
end Go.Proofs.Ytkjihbaiofocgaa

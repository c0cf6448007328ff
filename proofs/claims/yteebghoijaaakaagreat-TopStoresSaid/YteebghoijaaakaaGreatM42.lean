/- Part 42 of the proof: texts joined by this repo's tools/merge2.py (Hop3 Hop7 Hop8). By the prover of this repo. -/
import Derived.Test.YteebghoijaaakaaGreatM38
set_option linter.unusedVariables false
set_option linter.unusedSimpArgs false
/- The walk of crowd.hop: through, kind 3. By the prover of this repo. -/
namespace Go.Proofs.YteebghoijaaakaaGreat
namespace CW
open Go.RowKit
open TwigM RollM StoM TopM

set_option maxRecDepth 100000 in
set_option maxHeartbeats 4000000 in
theorem hop_thr3 (c gd gb n cd cb : Nat) (L : Int) (D : Nat → Int) (s : Nat → DS) (d p : Nat → Nat) (v : Nat → Value) (Fs : Nat → Nat → Prop) (w : World) (hX : CrowdX w c gd gb n cd cb L D s d p v Fs) (hL1 : 1 ≤ L) (hL : L ≤ 10) (hn1 : 1 ≤ n) (hn5 : n ≤ 5) (hf : ∀ j, j < n → Fit L (s j)) (hkd : ∀ j, j < n → Kd (D j))
    (on oth x m : Int) (hon : -9223372036854775808 ≤ on ∧ on ≤ 9223372036854775807) (hoth : -9223372036854775808 ≤ oth ∧ oth ≤ 9223372036854775807) (hx : -9223372036854775808 ≤ x ∧ x ≤ 9223372036854775807) (hm : -9223372036854775808 ≤ m ∧ m ≤ 9223372036854775807)
    (i k : Nat) (hi : i < n) (hk : k < n) (hai : atF on n = i) (hak : atF oth n = k) :
    Calls Tryz.prog 7 #[.pointer (some ⟨c, 0, none⟩), .agg #[.int .i64 3, .int .i64 on, .int .i64 oth, .int .i64 x, .int .i64 m]] w
      (HopOut w c gd gb n cd cb L d p v Fs (up D i (3 - D i)) (up s i (TopM.oneF L (s i) (s k) (3, on, oth, x, m)))) := by
  have hA1 := hide (fun (e : Later (w.alloc (.cells #[.int .i64 3, .int .i64 on, .int .i64 oth, .int .i64 x, .int .i64 m] 30)).heap.size (w.alloc (.cells #[.int .i64 3, .int .i64 on, .int .i64 oth, .int .i64 x, .int .i64 m] 30))) => at_c on n e.val (by omega) (by omega) hon.1 hon.2)
  have hA2 := hide (fun (e : Later (w.alloc (.cells #[.int .i64 3, .int .i64 on, .int .i64 oth, .int .i64 x, .int .i64 m] 30)).heap.size (w.alloc (.cells #[.int .i64 3, .int .i64 on, .int .i64 oth, .int .i64 x, .int .i64 m] 30))) => at_c oth n e.val (by omega) (by omega) hoth.1 hoth.2)
  rw [hai] at hA1
  rw [hak] at hA2
  obtain ⟨hb, hhb⟩ : ∃ hb, w.heap.size = hb := ⟨_, rfl⟩
  have hX0 := hide (hX.kept (balloc0 w (.cells #[.int .i64 3, .int .i64 on, .int .i64 oth, .int .i64 x, .int .i64 m] 30)))
  have hH0 := hide ((Hp.start w c gd gb n d p v Fs).below (balloc0 w (.cells #[.int .i64 3, .int .i64 on, .int .i64 oth, .int .i64 x, .int .i64 m] 30)))
  have hB0 := Blk.made w 30 #[.int .i64 3, .int .i64 on, .int .i64 oth, .int .i64 x, .int .i64 m]
  rw [hhb] at hB0
  have hz0 : hb < (w.alloc (.cells #[.int .i64 3, .int .i64 on, .int .i64 oth, .int .i64 x, .int .i64 m] 30)).heap.size := hB0.lt
  have hB0 := hide hB0
  clear hX
  go_enter Tryz.func7, Tryz.ntmps7
  go_wp2_with fail

  generalize (w.alloc (.cells #[.int .i64 3, .int .i64 on, .int .i64 oth, .int .i64 x, .int .i64 m] 30)) = W0 at *
  obtain ⟨a0, -, a1, a2, a3, a4, -, -, -, -, -⟩ := hX0.out.cells hi
  have a5 : W0.cell? ⟨hb, 1, none⟩ = some (.int .i64 on) := hB0.out.cell 1
  have a6 : W0.cell? ⟨hb, 2, none⟩ = some (.int .i64 oth) := hB0.out.cell 2
  refine wp_region_later (by kernel_rfl) (by kernel_rfl) ?_
  repeat (go_big_quiet_step (first
    | (go_at_call 8; (with_reducible exact calls_later_same (hA1.out _)))
    | (go_at_call 8; (with_reducible exact calls_later_same (hA2.out _)))
    | exact rfl))
  refine wpQuiet_nil ?_
  rintro _ ⟨e1, rfl⟩
  have hX1 := hide (hX0.out.kept e1.property)
  have hH1 := hide (hH0.out.below e1.property)
  have hB1 := hide (hB0.out.kept e1.property)
  have hz1 : hb < e1.val.heap.size := by have := e1.property.size; omega
  have hzw : w.heap.size ≤ hb := by omega
  generalize e1.val = W1 at *
  clear e1 a0 a1 a2 a3 a4 a5 a6 hX0 hH0 hB0 hA1 hA2 hz0 hhb hai hak
  obtain ⟨a0, a1, a2, a3, a4, a5, a6, a7, -, -, -⟩ := hX1.out.cells hi
  have b0 : W1.cell? ⟨hb, 0, none⟩ = some (.int .i64 3) := hB1.out.cell 0
  have b3 : W1.cell? ⟨hb, 3, none⟩ = some (.int .i64 x) := hB1.out.cell 3
  have b4 : W1.cell? ⟨hb, 4, none⟩ = some (.int .i64 m) := hB1.out.cell 4
  have hdi := hX1.out.dig i hi
  have hfi := hf i hi
  have hT := hide (through_c (d i) (p i) (s i).1 (D i) L 3 (s i).2.1 (s i).2.2 (Fs i) W1 hdi hfi hL (hkd i hi) (by simp))
  have hone : TopM.oneF L (s i) (s k) (3, on, oth, x, m) = s i := by unfold TopM.oneF; simp
  rw [hone]
  have hbd := hide (hX1.out.bnd (Nat.le_refl _))
  clear hone
  go_wp2_with fail
  refine Calls.mono hT.out ?_
  rintro e w2 ⟨d', rfl, p', F', h1, h2, h3, h4, h5⟩
  have hX2 := hide (hX1.out.kept h5)
  have hH2 := hide (hH1.out.below h5)
  have hS := hide (digest_same d' (d i) p' (p i) (s i).1 (3 - D i) (D i) L (s i).2.1 F' (Fs i) w2 h1 (hdi.kept h5))
  have hd2 := hide h1
  have h4 := hide h4
  have h5 := hide h5
  have hzW : w.heap.size ≤ W1.heap.size := by omega
  clear h1 hT hdi a0 a1 a2 a3 a4 a5 a6 a7 b0 b3 b4 hf hkd hX1 hH1 hB1
  go_wp2_with fail
  refine Calls.mono hS.out ?_
  rintro e w3 ⟨rfl, hb3⟩
  have hX3 := hide (hX2.out.kept hb3)
  have hH3 := hide (hH2.out.below hb3)
  have hd3 := hide (hd2.out.kept hb3)
  obtain ⟨a0, a1, a2, a3, a4, a5, a6, a7, a8, a9, a10⟩ := hX3.out.cells hi
  have hX4 := hide (hX3.out.putD hi hbd.out hd3.out h2 h3 h4.out)
  have hH4 := hide (hH3.out.putD (i := i) (d' := d') (p' := p') (F' := F') (.pointer (some ⟨d', 0, none⟩)) (by omega) (by omega) fun j hj => by have := h4.out j hj; omega)
  clear hX2 hH2 hS hd2 hb3
  go_wp2_with fail
  go_ret
  exact ⟨rfl, _, _, _, _, hX4.out, hH4.out⟩
end CW
end Go.Proofs.YteebghoijaaakaaGreat
/- The walk of crowd.hop: Lower to no k. By the prover of this repo. -/
namespace Go.Proofs.YteebghoijaaakaaGreat
namespace CW
open Go.RowKit
open TwigM RollM StoM TopM

set_option maxRecDepth 100000 in
set_option maxHeartbeats 4000000 in
theorem hop_low (c gd gb n cd cb : Nat) (L : Int) (D : Nat → Int) (s : Nat → DS) (d p : Nat → Nat) (v : Nat → Value) (Fs : Nat → Nat → Prop) (w : World) (hX : CrowdX w c gd gb n cd cb L D s d p v Fs) (hL1 : 1 ≤ L) (hL : L ≤ 10) (hn1 : 1 ≤ n) (hn5 : n ≤ 5) (hf : ∀ j, j < n → Fit L (s j)) (hkd : ∀ j, j < n → Kd (D j))
    (on oth x m : Int) (hon : -9223372036854775808 ≤ on ∧ on ≤ 9223372036854775807) (hoth : -9223372036854775808 ≤ oth ∧ oth ≤ 9223372036854775807) (hx : -9223372036854775808 ≤ x ∧ x ≤ 9223372036854775807) (hm : -9223372036854775808 ≤ m ∧ m ≤ 9223372036854775807)
    (i k : Nat) (hi : i < n) (hk : k < n) (hai : atF on n = i) (hak : atF oth n = k) (hno : x < 1 ∨ (s i).1 < x) :
    Calls Tryz.prog 7 #[.pointer (some ⟨c, 0, none⟩), .agg #[.int .i64 7, .int .i64 on, .int .i64 oth, .int .i64 x, .int .i64 m]] w
      (HopOut w c gd gb n cd cb L d p v Fs D (up s i (TopM.oneF L (s i) (s k) (7, on, oth, x, m)))) := by
  have hA1 := hide (fun (e : Later (w.alloc (.cells #[.int .i64 7, .int .i64 on, .int .i64 oth, .int .i64 x, .int .i64 m] 30)).heap.size (w.alloc (.cells #[.int .i64 7, .int .i64 on, .int .i64 oth, .int .i64 x, .int .i64 m] 30))) => at_c on n e.val (by omega) (by omega) hon.1 hon.2)
  have hA2 := hide (fun (e : Later (w.alloc (.cells #[.int .i64 7, .int .i64 on, .int .i64 oth, .int .i64 x, .int .i64 m] 30)).heap.size (w.alloc (.cells #[.int .i64 7, .int .i64 on, .int .i64 oth, .int .i64 x, .int .i64 m] 30))) => at_c oth n e.val (by omega) (by omega) hoth.1 hoth.2)
  rw [hai] at hA1
  rw [hak] at hA2
  obtain ⟨hb, hhb⟩ : ∃ hb, w.heap.size = hb := ⟨_, rfl⟩
  have hX0 := hide (hX.kept (balloc0 w (.cells #[.int .i64 7, .int .i64 on, .int .i64 oth, .int .i64 x, .int .i64 m] 30)))
  have hH0 := hide ((Hp.start w c gd gb n d p v Fs).below (balloc0 w (.cells #[.int .i64 7, .int .i64 on, .int .i64 oth, .int .i64 x, .int .i64 m] 30)))
  have hB0 := Blk.made w 30 #[.int .i64 7, .int .i64 on, .int .i64 oth, .int .i64 x, .int .i64 m]
  rw [hhb] at hB0
  have hz0 : hb < (w.alloc (.cells #[.int .i64 7, .int .i64 on, .int .i64 oth, .int .i64 x, .int .i64 m] 30)).heap.size := hB0.lt
  have hB0 := hide hB0
  clear hX
  go_enter Tryz.func7, Tryz.ntmps7
  go_wp2_with fail

  generalize (w.alloc (.cells #[.int .i64 7, .int .i64 on, .int .i64 oth, .int .i64 x, .int .i64 m] 30)) = W0 at *
  obtain ⟨a0, -, a1, a2, a3, a4, -, -, -, -, -⟩ := hX0.out.cells hi
  have a5 : W0.cell? ⟨hb, 1, none⟩ = some (.int .i64 on) := hB0.out.cell 1
  have a6 : W0.cell? ⟨hb, 2, none⟩ = some (.int .i64 oth) := hB0.out.cell 2
  refine wp_region_later (by kernel_rfl) (by kernel_rfl) ?_
  repeat (go_big_quiet_step (first
    | (go_at_call 8; (with_reducible exact calls_later_same (hA1.out _)))
    | (go_at_call 8; (with_reducible exact calls_later_same (hA2.out _)))
    | exact rfl))
  refine wpQuiet_nil ?_
  rintro _ ⟨e1, rfl⟩
  have hX1 := hide (hX0.out.kept e1.property)
  have hH1 := hide (hH0.out.below e1.property)
  have hB1 := hide (hB0.out.kept e1.property)
  have hz1 : hb < e1.val.heap.size := by have := e1.property.size; omega
  have hzw : w.heap.size ≤ hb := by omega
  generalize e1.val = W1 at *
  clear e1 a0 a1 a2 a3 a4 a5 a6 hX0 hH0 hB0 hA1 hA2 hz0 hhb hai hak
  obtain ⟨a0, a1, a2, a3, a4, a5, a6, a7, -, -, -⟩ := hX1.out.cells hi
  have b0 : W1.cell? ⟨hb, 0, none⟩ = some (.int .i64 7) := hB1.out.cell 0
  have b3 : W1.cell? ⟨hb, 3, none⟩ = some (.int .i64 x) := hB1.out.cell 3
  have b4 : W1.cell? ⟨hb, 4, none⟩ = some (.int .i64 m) := hB1.out.cell 4
  have hdi := hX1.out.dig i hi
  have hC := hide (lower_no (d i) (p i) (s i).1 (D i) L x (s i).2.1 (Fs i) W1 hdi hno)
  have hone : Hid (TopM.oneF L (s i) (s k) (7, on, oth, x, m) = s i) := by show _ = _; unfold TopM.oneF; simp only []; rw [if_neg (by omega), if_neg (by omega), if_neg (by omega), if_pos trivial, if_pos hno]
  have hCf := hide (fun W (hW : Below W1.heap.size W1 W) => digest_conf (d i) (p i) (s i).1 (D i) L (s i).2.1 (Fs i) W (hdi.kept hW))
  have hfld : ∀ W : World, (Instr.field 42 (.agg #[.int .i64 L, .int .i64 (s i).1, .int .i64 (D i)]) 1).run Tryz.prog W = .ok (.int .i64 (s i).1) W := fun _ => by kernel_rfl
  unfold conf at hCf
  clear hdi b4 hf hkd
  go_wp2_with fail
  refine Calls.mono hC.out ?_
  rintro e w2 ⟨rfl, hb2⟩
  have hX2 := hide (hX1.out.kept hb2)
  have hH2 := hide (hH1.out.below hb2)
  have hB2 := hide (hB1.out.kept hb2)
  have hCf2 := hide (fun (e : Later w2.heap.size w2) => hCf.out e.val (hb2.trans (e.property.mono hb2.size)))
  have b5 : w2.cell? ⟨hb, 3, none⟩ = some (.int .i64 x) := hB2.out.cell 3
  have b6 := hB2.out.lt
  clear hC a0 a1 a2 a3 a4 a5 a6 a7 b0 b3 hX1 hH1 hB1 hz1 hb2 hCf
  by_cases hx1 : x < 1
  · have hx2 : decide (x < 1) = true := decide_eq_true hx1
    go_wp2_with fail
    refine wp_region_later (by kernel_rfl) (by kernel_rfl) ?_
    repeat (go_big_quiet_step (first
      | (go_at_call 10; (with_reducible exact calls_later (hCf2.out _)))
      | exact rfl))
    refine wpQuiet_nil ?_
    rintro _ ⟨e3, rfl⟩
    have hX3 := hide (hX2.out.kept e3.property)
    have hH3 := hide (hH2.out.below e3.property)
    generalize e3.val = w3 at *
    go_wp2_with fail
    go_ret
    refine ⟨rfl, _, _, _, _, ?_, hH3.out⟩
    rw [hone.out, up_self]
    exact hX3.out
  · have hx2 : decide (x < 1) = false := decide_eq_false hx1
    have hx3 : decide ((s i).1 < x) = true := decide_eq_true (by omega)
    go_wp2_with fail
    refine wp_region_later (by kernel_rfl) (by kernel_rfl) ?_
    repeat (go_big_quiet_step (first
      | (go_at_call 10; (with_reducible exact calls_later (hCf2.out _)))
      | exact rfl))
    refine wpQuiet_nil ?_
    rintro _ ⟨e3, rfl⟩
    have hX3 := hide (hX2.out.kept e3.property)
    have hH3 := hide (hH2.out.below e3.property)
    generalize e3.val = w3 at *
    go_wp2_with fail
    go_ret
    refine ⟨rfl, _, _, _, _, ?_, hH3.out⟩
    rw [hone.out, up_self]
    exact hX3.out
end CW
end Go.Proofs.YteebghoijaaakaaGreat
/- The walk of crowd.hop: Reset. By the prover of this repo. -/
namespace Go.Proofs.YteebghoijaaakaaGreat
namespace CW
open Go.RowKit
open TwigM RollM StoM TopM

set_option maxRecDepth 100000 in
set_option maxHeartbeats 4000000 in
theorem hop_rst (c gd gb n cd cb : Nat) (L : Int) (D : Nat → Int) (s : Nat → DS) (d p : Nat → Nat) (v : Nat → Value) (Fs : Nat → Nat → Prop) (w : World) (hX : CrowdX w c gd gb n cd cb L D s d p v Fs) (hL1 : 1 ≤ L) (hL : L ≤ 10) (hn1 : 1 ≤ n) (hn5 : n ≤ 5) (hf : ∀ j, j < n → Fit L (s j)) (hkd : ∀ j, j < n → Kd (D j))
    (on oth x m : Int) (hon : -9223372036854775808 ≤ on ∧ on ≤ 9223372036854775807) (hoth : -9223372036854775808 ≤ oth ∧ oth ≤ 9223372036854775807) (hx : -9223372036854775808 ≤ x ∧ x ≤ 9223372036854775807) (hm : -9223372036854775808 ≤ m ∧ m ≤ 9223372036854775807)
    (i k : Nat) (hi : i < n) (hk : k < n) (hai : atF on n = i) (hak : atF oth n = k) :
    Calls Tryz.prog 7 #[.pointer (some ⟨c, 0, none⟩), .agg #[.int .i64 8, .int .i64 on, .int .i64 oth, .int .i64 x, .int .i64 m]] w
      (HopOut w c gd gb n cd cb L d p v Fs D (up s i (TopM.oneF L (s i) (s k) (8, on, oth, x, m)))) := by
  have hA1 := hide (fun (e : Later (w.alloc (.cells #[.int .i64 8, .int .i64 on, .int .i64 oth, .int .i64 x, .int .i64 m] 30)).heap.size (w.alloc (.cells #[.int .i64 8, .int .i64 on, .int .i64 oth, .int .i64 x, .int .i64 m] 30))) => at_c on n e.val (by omega) (by omega) hon.1 hon.2)
  have hA2 := hide (fun (e : Later (w.alloc (.cells #[.int .i64 8, .int .i64 on, .int .i64 oth, .int .i64 x, .int .i64 m] 30)).heap.size (w.alloc (.cells #[.int .i64 8, .int .i64 on, .int .i64 oth, .int .i64 x, .int .i64 m] 30))) => at_c oth n e.val (by omega) (by omega) hoth.1 hoth.2)
  rw [hai] at hA1
  rw [hak] at hA2
  obtain ⟨hb, hhb⟩ : ∃ hb, w.heap.size = hb := ⟨_, rfl⟩
  have hX0 := hide (hX.kept (balloc0 w (.cells #[.int .i64 8, .int .i64 on, .int .i64 oth, .int .i64 x, .int .i64 m] 30)))
  have hH0 := hide ((Hp.start w c gd gb n d p v Fs).below (balloc0 w (.cells #[.int .i64 8, .int .i64 on, .int .i64 oth, .int .i64 x, .int .i64 m] 30)))
  have hB0 := Blk.made w 30 #[.int .i64 8, .int .i64 on, .int .i64 oth, .int .i64 x, .int .i64 m]
  rw [hhb] at hB0
  have hz0 : hb < (w.alloc (.cells #[.int .i64 8, .int .i64 on, .int .i64 oth, .int .i64 x, .int .i64 m] 30)).heap.size := hB0.lt
  have hB0 := hide hB0
  clear hX
  go_enter Tryz.func7, Tryz.ntmps7
  go_wp2_with fail

  generalize (w.alloc (.cells #[.int .i64 8, .int .i64 on, .int .i64 oth, .int .i64 x, .int .i64 m] 30)) = W0 at *
  obtain ⟨a0, -, a1, a2, a3, a4, -, -, -, -, -⟩ := hX0.out.cells hi
  have a5 : W0.cell? ⟨hb, 1, none⟩ = some (.int .i64 on) := hB0.out.cell 1
  have a6 : W0.cell? ⟨hb, 2, none⟩ = some (.int .i64 oth) := hB0.out.cell 2
  refine wp_region_later (by kernel_rfl) (by kernel_rfl) ?_
  repeat (go_big_quiet_step (first
    | (go_at_call 8; (with_reducible exact calls_later_same (hA1.out _)))
    | (go_at_call 8; (with_reducible exact calls_later_same (hA2.out _)))
    | exact rfl))
  refine wpQuiet_nil ?_
  rintro _ ⟨e1, rfl⟩
  have hX1 := hide (hX0.out.kept e1.property)
  have hH1 := hide (hH0.out.below e1.property)
  have hB1 := hide (hB0.out.kept e1.property)
  have hz1 : hb < e1.val.heap.size := by have := e1.property.size; omega
  have hzw : w.heap.size ≤ hb := by omega
  generalize e1.val = W1 at *
  clear e1 a0 a1 a2 a3 a4 a5 a6 hX0 hH0 hB0 hA1 hA2 hz0 hhb hai hak
  obtain ⟨a0, a1, a2, a3, a4, a5, a6, a7, -, -, -⟩ := hX1.out.cells hi
  have b0 : W1.cell? ⟨hb, 0, none⟩ = some (.int .i64 8) := hB1.out.cell 0
  have b3 : W1.cell? ⟨hb, 3, none⟩ = some (.int .i64 x) := hB1.out.cell 3
  have b4 : W1.cell? ⟨hb, 4, none⟩ = some (.int .i64 m) := hB1.out.cell 4
  have hdi := hX1.out.dig i hi
  have hC := hide (digest_reset (d i) (p i) (s i).1 (D i) L (s i).2.1 (Fs i) W1 hdi)
  have hone : Hid (TopM.oneF L (s i) (s k) (8, on, oth, x, m) = ((s i).1, ([], []))) := by show _ = _; unfold TopM.oneF; simp
  clear hdi b3 b4 hf hkd
  go_wp2_with fail
  refine Calls.mono hC.out ?_
  rintro e w2 ⟨⟨rv, rfl⟩, h1, h2⟩
  have hX2 := hide (hX1.out.call hi h1 h2 fun j hj => .inl hj)
  have hH2 := hide (hH1.out.call hi h2 (F' := Fs i) fun j hj => .inl hj)
  clear h1 h2 hC a0 a1 a2 a3 a4 a5 a6 a7 b0 hX1 hH1 hB1 hz1
  have hcc := hX2.out.cells hi
  obtain ⟨-, c0, c1, -, c2, -, -, c3, -, -, c4⟩ := hcc
  have hX3 := hide (hX2.out.putE hi)
  have hH3 := hide (hH2.out.putV (i := i) (u := .slice none 0 0) (Turn.setCell w2 (fun j => j = gb) ⟨gb, i * 2 + 1, none⟩ (.slice none 0 0) rfl) fun j hj => by cases hj)
  go_wp2_with fail
  go_ret
  refine ⟨rfl, _, _, _, _, ?_, hH3.out⟩
  rw [hone.out]
  have e1 : up (up s i ((s i).1, ([], (s i).2.2))) i ((up s i ((s i).1, ([], (s i).2.2)) i).1, ((up s i ((s i).1, ([], (s i).2.2)) i).2.1, [])) = up s i ((s i).1, ([], [])) := by rw [up_up, up_same]
  rw [← e1]
  exact hX3.out
end CW
end Go.Proofs.YteebghoijaaakaaGreat

/- Part 39 of the proof: texts joined by this repo's tools/merge2.py (Hop1 Hop4 Hop6 Hop9). By the prover of this repo. -/
import Derived.Test.YteebghoijaaakaaGreatM38
import Derived.Deep.RegionHeld3
set_option linter.unusedVariables false
set_option linter.unusedSimpArgs false
/- The walk of crowd.hop: Compress. By the prover of this repo. -/
namespace Go.Proofs.YteebghoijaaakaaGreat
namespace CW
open Go.RowKit
open TwigM RollM StoM TopM

set_option maxRecDepth 100000 in
set_option maxHeartbeats 4000000 in
theorem hop_one (c gd gb n cd cb : Nat) (L : Int) (D : Nat → Int) (s : Nat → DS) (d p : Nat → Nat) (v : Nat → Value) (Fs : Nat → Nat → Prop) (w : World) (hX : CrowdX w c gd gb n cd cb L D s d p v Fs) (hL1 : 1 ≤ L) (hL : L ≤ 10) (hn1 : 1 ≤ n) (hn5 : n ≤ 5) (hf : ∀ j, j < n → Fit L (s j)) (hkd : ∀ j, j < n → Kd (D j))
    (on oth x m : Int) (hon : -9223372036854775808 ≤ on ∧ on ≤ 9223372036854775807) (hoth : -9223372036854775808 ≤ oth ∧ oth ≤ 9223372036854775807) (hx : -9223372036854775808 ≤ x ∧ x ≤ 9223372036854775807) (hm : -9223372036854775808 ≤ m ∧ m ≤ 9223372036854775807)
    (i k : Nat) (hi : i < n) (hk : k < n) (hai : atF on n = i) (hak : atF oth n = k) :
    Calls Tryz.prog 7 #[.pointer (some ⟨c, 0, none⟩), .agg #[.int .i64 1, .int .i64 on, .int .i64 oth, .int .i64 x, .int .i64 m]] w
      (HopOut w c gd gb n cd cb L d p v Fs D (up s i (TopM.oneF L (s i) (s k) (1, on, oth, x, m)))) := by
  have hA1 := hide (fun (e : Later (w.alloc (.cells #[.int .i64 1, .int .i64 on, .int .i64 oth, .int .i64 x, .int .i64 m] 30)).heap.size (w.alloc (.cells #[.int .i64 1, .int .i64 on, .int .i64 oth, .int .i64 x, .int .i64 m] 30))) => at_c on n e.val (by omega) (by omega) hon.1 hon.2)
  have hA2 := hide (fun (e : Later (w.alloc (.cells #[.int .i64 1, .int .i64 on, .int .i64 oth, .int .i64 x, .int .i64 m] 30)).heap.size (w.alloc (.cells #[.int .i64 1, .int .i64 on, .int .i64 oth, .int .i64 x, .int .i64 m] 30))) => at_c oth n e.val (by omega) (by omega) hoth.1 hoth.2)
  rw [hai] at hA1
  rw [hak] at hA2
  obtain ⟨hb, hhb⟩ : ∃ hb, w.heap.size = hb := ⟨_, rfl⟩
  have hX0 := hide (hX.kept (balloc0 w (.cells #[.int .i64 1, .int .i64 on, .int .i64 oth, .int .i64 x, .int .i64 m] 30)))
  have hH0 := hide ((Hp.start w c gd gb n d p v Fs).below (balloc0 w (.cells #[.int .i64 1, .int .i64 on, .int .i64 oth, .int .i64 x, .int .i64 m] 30)))
  have hB0 := Blk.made w 30 #[.int .i64 1, .int .i64 on, .int .i64 oth, .int .i64 x, .int .i64 m]
  rw [hhb] at hB0
  have hz0 : hb < (w.alloc (.cells #[.int .i64 1, .int .i64 on, .int .i64 oth, .int .i64 x, .int .i64 m] 30)).heap.size := hB0.lt
  have hB0 := hide hB0
  clear hX
  go_enter Tryz.func7, Tryz.ntmps7
  go_wp2_with fail

  generalize (w.alloc (.cells #[.int .i64 1, .int .i64 on, .int .i64 oth, .int .i64 x, .int .i64 m] 30)) = W0 at *
  obtain ⟨a0, -, a1, a2, a3, a4, -, -, -, -, -⟩ := hX0.out.cells hi
  have a5 : W0.cell? ⟨hb, 1, none⟩ = some (.int .i64 on) := hB0.out.cell 1
  have a6 : W0.cell? ⟨hb, 2, none⟩ = some (.int .i64 oth) := hB0.out.cell 2
  refine wp_region_later (by kernel_rfl) (by kernel_rfl) ?_
  repeat (go_big_quiet_step (first
    | (go_at_call 8; (with_reducible exact calls_later_same (hA1.out _)))
    | (go_at_call 8; (with_reducible exact calls_later_same (hA2.out _)))
    | exact rfl))
  refine wpQuiet_nil ?_
  rintro _ ⟨e1, rfl⟩
  have hX1 := hide (hX0.out.kept e1.property)
  have hH1 := hide (hH0.out.below e1.property)
  have hB1 := hide (hB0.out.kept e1.property)
  have hz1 : hb < e1.val.heap.size := by have := e1.property.size; omega
  have hzw : w.heap.size ≤ hb := by omega
  generalize e1.val = W1 at *
  clear e1 a0 a1 a2 a3 a4 a5 a6 hX0 hH0 hB0 hA1 hA2 hz0 hhb hai hak
  obtain ⟨a0, a1, a2, a3, a4, a5, a6, a7, -, -, -⟩ := hX1.out.cells hi
  have b0 : W1.cell? ⟨hb, 0, none⟩ = some (.int .i64 1) := hB1.out.cell 0
  have b3 : W1.cell? ⟨hb, 3, none⟩ = some (.int .i64 x) := hB1.out.cell 3
  have b4 : W1.cell? ⟨hb, 4, none⟩ = some (.int .i64 m) := hB1.out.cell 4
  have hdi := hX1.out.dig i hi
  have hfi := hf i hi
  have hms := hfi.meas hL1 hL
  have hC := hide (digest_compress (d i) (p i) (s i).1 (D i) L (s i).2.1 (Fs i) W1 hdi hms)
  have hone : Hid (TopM.oneF L (s i) (s k) (1, on, oth, x, m) = ((s i).1, ((pressF L (s i).1 (s i).2.1).1, (s i).2.2))) := if_pos rfl
  have hle := (hfi.inv.press hL1 hfi.k1).2
  have hk1 := hfi.k1
  have hk2 := hfi.k2
  have hll := hfi.len
  generalize hpr : (pressF L (s i).1 (s i).2.1).1 = l' at *
  clear hpr
  go_wp2_with fail
  refine Calls.mono hC.out ?_
  rintro e w2 ⟨rfl, F', h1, h2, h3⟩
  have hX2 := hide (hX1.out.call hi h1 h2 h3)
  have hH2 := hide (hH1.out.call hi h2 h3)
  have hLn := hide (digest_len (d i) (p i) (s i).1 (D i) L l' F' w2 h1)
  have hCf := hide (fun W (b : Below w2.heap.size w2 W) => digest_conf (d i) (p i) (s i).1 (D i) L l' F' W (h1.kept b))
  have hBd := hide (fun W => bound_c (s i).1 W hk1 hk2)
  unfold conf at hCf
  have hfld : ∀ W : World, (Instr.field 42 (.agg #[.int .i64 L, .int .i64 (s i).1, .int .i64 (D i)]) 1).run Tryz.prog W = .ok (.int .i64 (s i).1) W := fun _ => by kernel_rfl
  clear h1 h2 h3 hC hdi a0 a1 a2 a3 a4 a5 a6 a7 b0 b3 b4 hf hkd hX1 hH1 hB1 hz1
  go_wp2_with fail
  refine Calls.mono hLn.out ?_
  rintro e w3 ⟨rfl, hb3⟩
  go_wp2_with fail
  refine Calls.mono (hCf.out w3 hb3) ?_
  rintro e w4 ⟨rfl, hb4⟩
  have hb4 := hb3.trans (hb4.mono hb3.size)
  go_wp2_with fail
  refine Calls.mono (hBd.out w4) ?_
  rintro e w5 ⟨rfl, rfl⟩
  have hX3 := hide (hX2.out.kept hb4)
  have hH3 := hide (hH2.out.below hb4)
  go_wp2_with fail
  go_ret
  refine ⟨rfl, _, _, _, _, ?_, hH3.out⟩
  rw [hone.out]
  exact hX3.out
end CW
end Go.Proofs.YteebghoijaaakaaGreat
/- The walk of crowd.hop: through, kind 4. By the prover of this repo. -/
namespace Go.Proofs.YteebghoijaaakaaGreat
namespace CW
open Go.RowKit
open TwigM RollM StoM TopM

set_option maxRecDepth 100000 in
set_option maxHeartbeats 4000000 in
theorem hop_thr4 (c gd gb n cd cb : Nat) (L : Int) (D : Nat → Int) (s : Nat → DS) (d p : Nat → Nat) (v : Nat → Value) (Fs : Nat → Nat → Prop) (w : World) (hX : CrowdX w c gd gb n cd cb L D s d p v Fs) (hL1 : 1 ≤ L) (hL : L ≤ 10) (hn1 : 1 ≤ n) (hn5 : n ≤ 5) (hf : ∀ j, j < n → Fit L (s j)) (hkd : ∀ j, j < n → Kd (D j))
    (on oth x m : Int) (hon : -9223372036854775808 ≤ on ∧ on ≤ 9223372036854775807) (hoth : -9223372036854775808 ≤ oth ∧ oth ≤ 9223372036854775807) (hx : -9223372036854775808 ≤ x ∧ x ≤ 9223372036854775807) (hm : -9223372036854775808 ≤ m ∧ m ≤ 9223372036854775807)
    (i k : Nat) (hi : i < n) (hk : k < n) (hai : atF on n = i) (hak : atF oth n = k) :
    Calls Tryz.prog 7 #[.pointer (some ⟨c, 0, none⟩), .agg #[.int .i64 4, .int .i64 on, .int .i64 oth, .int .i64 x, .int .i64 m]] w
      (HopOut w c gd gb n cd cb L d p v Fs (up D i (3 - D i)) (up s i (TopM.oneF L (s i) (s k) (4, on, oth, x, m)))) := by
  have hA1 := hide (fun (e : Later (w.alloc (.cells #[.int .i64 4, .int .i64 on, .int .i64 oth, .int .i64 x, .int .i64 m] 30)).heap.size (w.alloc (.cells #[.int .i64 4, .int .i64 on, .int .i64 oth, .int .i64 x, .int .i64 m] 30))) => at_c on n e.val (by omega) (by omega) hon.1 hon.2)
  have hA2 := hide (fun (e : Later (w.alloc (.cells #[.int .i64 4, .int .i64 on, .int .i64 oth, .int .i64 x, .int .i64 m] 30)).heap.size (w.alloc (.cells #[.int .i64 4, .int .i64 on, .int .i64 oth, .int .i64 x, .int .i64 m] 30))) => at_c oth n e.val (by omega) (by omega) hoth.1 hoth.2)
  rw [hai] at hA1
  rw [hak] at hA2
  obtain ⟨hb, hhb⟩ : ∃ hb, w.heap.size = hb := ⟨_, rfl⟩
  have hX0 := hide (hX.kept (balloc0 w (.cells #[.int .i64 4, .int .i64 on, .int .i64 oth, .int .i64 x, .int .i64 m] 30)))
  have hH0 := hide ((Hp.start w c gd gb n d p v Fs).below (balloc0 w (.cells #[.int .i64 4, .int .i64 on, .int .i64 oth, .int .i64 x, .int .i64 m] 30)))
  have hB0 := Blk.made w 30 #[.int .i64 4, .int .i64 on, .int .i64 oth, .int .i64 x, .int .i64 m]
  rw [hhb] at hB0
  have hz0 : hb < (w.alloc (.cells #[.int .i64 4, .int .i64 on, .int .i64 oth, .int .i64 x, .int .i64 m] 30)).heap.size := hB0.lt
  have hB0 := hide hB0
  have hgl : gd < hb ∧ gb < hb ∧ c < hb := by have := hX.gdlt; have := hX.gblt; have := hX.blk.lt; omega
  clear hX
  go_enter Tryz.func7, Tryz.ntmps7
  go_wp2_with fail

  generalize (w.alloc (.cells #[.int .i64 4, .int .i64 on, .int .i64 oth, .int .i64 x, .int .i64 m] 30)) = W0 at *
  obtain ⟨a0, -, a1, a2, a3, a4, -, -, -, -, -⟩ := hX0.out.cells hi
  have a5 : W0.cell? ⟨hb, 1, none⟩ = some (.int .i64 on) := hB0.out.cell 1
  have a6 : W0.cell? ⟨hb, 2, none⟩ = some (.int .i64 oth) := hB0.out.cell 2
  refine wp_region_later (by kernel_rfl) (by kernel_rfl) ?_
  repeat (go_big_quiet_step (first
    | (go_at_call 8; (with_reducible exact calls_later_same (hA1.out _)))
    | (go_at_call 8; (with_reducible exact calls_later_same (hA2.out _)))
    | exact rfl))
  refine wpQuiet_nil ?_
  rintro _ ⟨e1, rfl⟩
  have hX1 := hide (hX0.out.kept e1.property)
  have hH1 := hide (hH0.out.below e1.property)
  have hB1 := hide (hB0.out.kept e1.property)
  have hz1 : hb < e1.val.heap.size := by have := e1.property.size; omega
  have hzw : w.heap.size ≤ hb := by omega
  generalize e1.val = W1 at *
  clear e1 a0 a1 a2 a3 a4 a5 a6 hX0 hH0 hB0 hA1 hA2 hz0 hhb hai hak
  obtain ⟨a0, a1, a2, a3, a4, a5, a6, a7, -, -, -⟩ := hX1.out.cells hi
  have b0 : W1.cell? ⟨hb, 0, none⟩ = some (.int .i64 4) := hB1.out.cell 0
  have b3 : W1.cell? ⟨hb, 3, none⟩ = some (.int .i64 x) := hB1.out.cell 3
  have b4 : W1.cell? ⟨hb, 4, none⟩ = some (.int .i64 m) := hB1.out.cell 4
  have hdi := hX1.out.dig i hi
  have hfi := hf i hi
  have hT := hide (through_c (d i) (p i) (s i).1 (D i) L 4 (s i).2.1 (s i).2.2 (Fs i) W1 hdi hfi hL (hkd i hi) (by simp))
  have hone : TopM.oneF L (s i) (s k) (4, on, oth, x, m) = s i := by unfold TopM.oneF; simp
  rw [hone]
  have hbd := hide (hX1.out.bnd (Nat.le_refl _))
  clear hone
  go_wp2_with fail
  refine Calls.mono hT.out ?_
  rintro e w2 ⟨d', rfl, p', F', h1, h2, h3, h4, h5⟩
  have hX2 := hide (hX1.out.kept h5)
  have hH2 := hide (hH1.out.below h5)
  have hS := hide (digest_same d' (d i) p' (p i) (s i).1 (3 - D i) (D i) L (s i).2.1 F' (Fs i) w2 h1 (hdi.kept h5))
  have hd2 := hide h1
  have h4 := hide h4
  have h5 := hide h5
  have hzW : w.heap.size ≤ W1.heap.size := by omega
  clear h1 hT hdi a0 a1 a2 a3 a4 a5 a6 a7 b0 b3 b4 hf hkd hX1 hH1 hB1
  go_wp2_with fail
  refine Calls.mono hS.out ?_
  rintro e w3 ⟨rfl, hb3⟩
  have hX3 := hide (hX2.out.kept hb3)
  have hH3 := hide (hH2.out.below hb3)
  have hd3 := hide (hd2.out.kept hb3)
  obtain ⟨a0, a1, a2, a3, a4, a5, a6, a7, a8, a9, a10⟩ := hX3.out.cells hi
  have hX4 := hide (hX3.out.putD hi hbd.out hd3.out h2 h3 h4.out)
  have hH4 := hide (hH3.out.putD (i := i) (d' := d') (p' := p') (F' := F') (.pointer (some ⟨d', 0, none⟩)) (by omega) (by omega) fun j hj => by have := h4.out j hj; omega)
  clear hX2 hH2 hS hd2 hb3
  go_wp2_with fail
  go_ret
  exact ⟨rfl, _, _, _, _, hX4.out, hH4.out⟩
end CW
end Go.Proofs.YteebghoijaaakaaGreat
/- The walk of crowd.hop: through, kind 6. By the prover of this repo. -/
namespace Go.Proofs.YteebghoijaaakaaGreat
namespace CW
open Go.RowKit
open TwigM RollM StoM TopM

set_option maxRecDepth 100000 in
set_option maxHeartbeats 4000000 in
theorem hop_thr6 (c gd gb n cd cb : Nat) (L : Int) (D : Nat → Int) (s : Nat → DS) (d p : Nat → Nat) (v : Nat → Value) (Fs : Nat → Nat → Prop) (w : World) (hX : CrowdX w c gd gb n cd cb L D s d p v Fs) (hL1 : 1 ≤ L) (hL : L ≤ 10) (hn1 : 1 ≤ n) (hn5 : n ≤ 5) (hf : ∀ j, j < n → Fit L (s j)) (hkd : ∀ j, j < n → Kd (D j))
    (on oth x m : Int) (hon : -9223372036854775808 ≤ on ∧ on ≤ 9223372036854775807) (hoth : -9223372036854775808 ≤ oth ∧ oth ≤ 9223372036854775807) (hx : -9223372036854775808 ≤ x ∧ x ≤ 9223372036854775807) (hm : -9223372036854775808 ≤ m ∧ m ≤ 9223372036854775807)
    (i k : Nat) (hi : i < n) (hk : k < n) (hai : atF on n = i) (hak : atF oth n = k) :
    Calls Tryz.prog 7 #[.pointer (some ⟨c, 0, none⟩), .agg #[.int .i64 6, .int .i64 on, .int .i64 oth, .int .i64 x, .int .i64 m]] w
      (HopOut w c gd gb n cd cb L d p v Fs (up D i (3 - D i)) (up s i (TopM.oneF L (s i) (s k) (6, on, oth, x, m)))) := by
  have hA1 := hide (fun (e : Later (w.alloc (.cells #[.int .i64 6, .int .i64 on, .int .i64 oth, .int .i64 x, .int .i64 m] 30)).heap.size (w.alloc (.cells #[.int .i64 6, .int .i64 on, .int .i64 oth, .int .i64 x, .int .i64 m] 30))) => at_c on n e.val (by omega) (by omega) hon.1 hon.2)
  have hA2 := hide (fun (e : Later (w.alloc (.cells #[.int .i64 6, .int .i64 on, .int .i64 oth, .int .i64 x, .int .i64 m] 30)).heap.size (w.alloc (.cells #[.int .i64 6, .int .i64 on, .int .i64 oth, .int .i64 x, .int .i64 m] 30))) => at_c oth n e.val (by omega) (by omega) hoth.1 hoth.2)
  rw [hai] at hA1
  rw [hak] at hA2
  obtain ⟨hb, hhb⟩ : ∃ hb, w.heap.size = hb := ⟨_, rfl⟩
  have hX0 := hide (hX.kept (balloc0 w (.cells #[.int .i64 6, .int .i64 on, .int .i64 oth, .int .i64 x, .int .i64 m] 30)))
  have hH0 := hide ((Hp.start w c gd gb n d p v Fs).below (balloc0 w (.cells #[.int .i64 6, .int .i64 on, .int .i64 oth, .int .i64 x, .int .i64 m] 30)))
  have hB0 := Blk.made w 30 #[.int .i64 6, .int .i64 on, .int .i64 oth, .int .i64 x, .int .i64 m]
  rw [hhb] at hB0
  have hz0 : hb < (w.alloc (.cells #[.int .i64 6, .int .i64 on, .int .i64 oth, .int .i64 x, .int .i64 m] 30)).heap.size := hB0.lt
  have hB0 := hide hB0
  have hgl : gd < hb ∧ gb < hb ∧ c < hb := by have := hX.gdlt; have := hX.gblt; have := hX.blk.lt; omega
  clear hX
  go_enter Tryz.func7, Tryz.ntmps7
  go_wp2_with fail

  generalize (w.alloc (.cells #[.int .i64 6, .int .i64 on, .int .i64 oth, .int .i64 x, .int .i64 m] 30)) = W0 at *
  obtain ⟨a0, -, a1, a2, a3, a4, -, -, -, -, -⟩ := hX0.out.cells hi
  have a5 : W0.cell? ⟨hb, 1, none⟩ = some (.int .i64 on) := hB0.out.cell 1
  have a6 : W0.cell? ⟨hb, 2, none⟩ = some (.int .i64 oth) := hB0.out.cell 2
  refine wp_region_later (by kernel_rfl) (by kernel_rfl) ?_
  repeat (go_big_quiet_step (first
    | (go_at_call 8; (with_reducible exact calls_later_same (hA1.out _)))
    | (go_at_call 8; (with_reducible exact calls_later_same (hA2.out _)))
    | exact rfl))
  refine wpQuiet_nil ?_
  rintro _ ⟨e1, rfl⟩
  have hX1 := hide (hX0.out.kept e1.property)
  have hH1 := hide (hH0.out.below e1.property)
  have hB1 := hide (hB0.out.kept e1.property)
  have hz1 : hb < e1.val.heap.size := by have := e1.property.size; omega
  have hzw : w.heap.size ≤ hb := by omega
  generalize e1.val = W1 at *
  clear e1 a0 a1 a2 a3 a4 a5 a6 hX0 hH0 hB0 hA1 hA2 hz0 hhb hai hak
  obtain ⟨a0, a1, a2, a3, a4, a5, a6, a7, -, -, -⟩ := hX1.out.cells hi
  have b0 : W1.cell? ⟨hb, 0, none⟩ = some (.int .i64 6) := hB1.out.cell 0
  have b3 : W1.cell? ⟨hb, 3, none⟩ = some (.int .i64 x) := hB1.out.cell 3
  have b4 : W1.cell? ⟨hb, 4, none⟩ = some (.int .i64 m) := hB1.out.cell 4
  have hdi := hX1.out.dig i hi
  have hfi := hf i hi
  have hT := hide (through_c (d i) (p i) (s i).1 (D i) L 6 (s i).2.1 (s i).2.2 (Fs i) W1 hdi hfi hL (hkd i hi) (by simp))
  have hone : TopM.oneF L (s i) (s k) (6, on, oth, x, m) = s i := by unfold TopM.oneF; simp
  rw [hone]
  have hbd := hide (hX1.out.bnd (Nat.le_refl _))
  clear hone
  go_wp2_with fail
  refine Calls.mono hT.out ?_
  rintro e w2 ⟨d', rfl, p', F', h1, h2, h3, h4, h5⟩
  have hX2 := hide (hX1.out.kept h5)
  have hH2 := hide (hH1.out.below h5)
  have hS := hide (digest_same d' (d i) p' (p i) (s i).1 (3 - D i) (D i) L (s i).2.1 F' (Fs i) w2 h1 (hdi.kept h5))
  have hd2 := hide h1
  have h4 := hide h4
  have h5 := hide h5
  have hzW : w.heap.size ≤ W1.heap.size := by omega
  clear h1 hT hdi a0 a1 a2 a3 a4 a5 a6 a7 b0 b3 b4 hf hkd hX1 hH1 hB1
  go_wp2_with fail
  refine Calls.mono hS.out ?_
  rintro e w3 ⟨rfl, hb3⟩
  have hX3 := hide (hX2.out.kept hb3)
  have hH3 := hide (hH2.out.below hb3)
  have hd3 := hide (hd2.out.kept hb3)
  obtain ⟨a0, a1, a2, a3, a4, a5, a6, a7, a8, a9, a10⟩ := hX3.out.cells hi
  have hX4 := hide (hX3.out.putD hi hbd.out hd3.out h2 h3 h4.out)
  have hH4 := hide (hH3.out.putD (i := i) (d' := d') (p' := p') (F' := F') (.pointer (some ⟨d', 0, none⟩)) (by omega) (by omega) fun j hj => by have := h4.out j hj; omega)
  clear hX2 hH2 hS hd2 hb3
  go_wp2_with fail
  go_ret
  exact ⟨rfl, _, _, _, _, hX4.out, hH4.out⟩
end CW
end Go.Proofs.YteebghoijaaakaaGreat
/- The walk of crowd.hop: through, kind 9. By the prover of this repo. -/
namespace Go.Proofs.YteebghoijaaakaaGreat
namespace CW
open Go.RowKit
open TwigM RollM StoM TopM

set_option maxRecDepth 100000 in
set_option maxHeartbeats 4000000 in
theorem hop_thr9 (c gd gb n cd cb : Nat) (L : Int) (D : Nat → Int) (s : Nat → DS) (d p : Nat → Nat) (v : Nat → Value) (Fs : Nat → Nat → Prop) (w : World) (hX : CrowdX w c gd gb n cd cb L D s d p v Fs) (hL1 : 1 ≤ L) (hL : L ≤ 10) (hn1 : 1 ≤ n) (hn5 : n ≤ 5) (hf : ∀ j, j < n → Fit L (s j)) (hkd : ∀ j, j < n → Kd (D j))
    (on oth x m : Int) (hon : -9223372036854775808 ≤ on ∧ on ≤ 9223372036854775807) (hoth : -9223372036854775808 ≤ oth ∧ oth ≤ 9223372036854775807) (hx : -9223372036854775808 ≤ x ∧ x ≤ 9223372036854775807) (hm : -9223372036854775808 ≤ m ∧ m ≤ 9223372036854775807)
    (i k : Nat) (hi : i < n) (hk : k < n) (hai : atF on n = i) (hak : atF oth n = k) :
    Calls Tryz.prog 7 #[.pointer (some ⟨c, 0, none⟩), .agg #[.int .i64 9, .int .i64 on, .int .i64 oth, .int .i64 x, .int .i64 m]] w
      (HopOut w c gd gb n cd cb L d p v Fs (up D i (3 - D i)) (up s i (TopM.oneF L (s i) (s k) (9, on, oth, x, m)))) := by
  have hA1 := hide (fun (e : Later (w.alloc (.cells #[.int .i64 9, .int .i64 on, .int .i64 oth, .int .i64 x, .int .i64 m] 30)).heap.size (w.alloc (.cells #[.int .i64 9, .int .i64 on, .int .i64 oth, .int .i64 x, .int .i64 m] 30))) => at_c on n e.val (by omega) (by omega) hon.1 hon.2)
  have hA2 := hide (fun (e : Later (w.alloc (.cells #[.int .i64 9, .int .i64 on, .int .i64 oth, .int .i64 x, .int .i64 m] 30)).heap.size (w.alloc (.cells #[.int .i64 9, .int .i64 on, .int .i64 oth, .int .i64 x, .int .i64 m] 30))) => at_c oth n e.val (by omega) (by omega) hoth.1 hoth.2)
  rw [hai] at hA1
  rw [hak] at hA2
  obtain ⟨hb, hhb⟩ : ∃ hb, w.heap.size = hb := ⟨_, rfl⟩
  have hX0 := hide (hX.kept (balloc0 w (.cells #[.int .i64 9, .int .i64 on, .int .i64 oth, .int .i64 x, .int .i64 m] 30)))
  have hH0 := hide ((Hp.start w c gd gb n d p v Fs).below (balloc0 w (.cells #[.int .i64 9, .int .i64 on, .int .i64 oth, .int .i64 x, .int .i64 m] 30)))
  have hB0 := Blk.made w 30 #[.int .i64 9, .int .i64 on, .int .i64 oth, .int .i64 x, .int .i64 m]
  rw [hhb] at hB0
  have hz0 : hb < (w.alloc (.cells #[.int .i64 9, .int .i64 on, .int .i64 oth, .int .i64 x, .int .i64 m] 30)).heap.size := hB0.lt
  have hB0 := hide hB0
  have hgl : gd < hb ∧ gb < hb ∧ c < hb := by have := hX.gdlt; have := hX.gblt; have := hX.blk.lt; omega
  clear hX
  go_enter Tryz.func7, Tryz.ntmps7
  go_wp2_with fail

  generalize (w.alloc (.cells #[.int .i64 9, .int .i64 on, .int .i64 oth, .int .i64 x, .int .i64 m] 30)) = W0 at *
  obtain ⟨a0, -, a1, a2, a3, a4, -, -, -, -, -⟩ := hX0.out.cells hi
  have a5 : W0.cell? ⟨hb, 1, none⟩ = some (.int .i64 on) := hB0.out.cell 1
  have a6 : W0.cell? ⟨hb, 2, none⟩ = some (.int .i64 oth) := hB0.out.cell 2
  refine wp_region_later (by kernel_rfl) (by kernel_rfl) ?_
  repeat (go_big_quiet_step (first
    | (go_at_call 8; (with_reducible exact calls_later_same (hA1.out _)))
    | (go_at_call 8; (with_reducible exact calls_later_same (hA2.out _)))
    | exact rfl))
  refine wpQuiet_nil ?_
  rintro _ ⟨e1, rfl⟩
  have hX1 := hide (hX0.out.kept e1.property)
  have hH1 := hide (hH0.out.below e1.property)
  have hB1 := hide (hB0.out.kept e1.property)
  have hz1 : hb < e1.val.heap.size := by have := e1.property.size; omega
  have hzw : w.heap.size ≤ hb := by omega
  generalize e1.val = W1 at *
  clear e1 a0 a1 a2 a3 a4 a5 a6 hX0 hH0 hB0 hA1 hA2 hz0 hhb hai hak
  obtain ⟨a0, a1, a2, a3, a4, a5, a6, a7, -, -, -⟩ := hX1.out.cells hi
  have b0 : W1.cell? ⟨hb, 0, none⟩ = some (.int .i64 9) := hB1.out.cell 0
  have b3 : W1.cell? ⟨hb, 3, none⟩ = some (.int .i64 x) := hB1.out.cell 3
  have b4 : W1.cell? ⟨hb, 4, none⟩ = some (.int .i64 m) := hB1.out.cell 4
  have hdi := hX1.out.dig i hi
  have hfi := hf i hi
  have hT := hide (through_c (d i) (p i) (s i).1 (D i) L 9 (s i).2.1 (s i).2.2 (Fs i) W1 hdi hfi hL (hkd i hi) (by simp))
  have hone : TopM.oneF L (s i) (s k) (9, on, oth, x, m) = s i := by unfold TopM.oneF; simp
  rw [hone]
  have hbd := hide (hX1.out.bnd (Nat.le_refl _))
  clear hone
  go_wp2_with fail
  refine Calls.mono hT.out ?_
  rintro e w2 ⟨d', rfl, p', F', h1, h2, h3, h4, h5⟩
  have hX2 := hide (hX1.out.kept h5)
  have hH2 := hide (hH1.out.below h5)
  have hS := hide (digest_same d' (d i) p' (p i) (s i).1 (3 - D i) (D i) L (s i).2.1 F' (Fs i) w2 h1 (hdi.kept h5))
  have hd2 := hide h1
  have h4 := hide h4
  have h5 := hide h5
  have hzW : w.heap.size ≤ W1.heap.size := by omega
  clear h1 hT hdi a0 a1 a2 a3 a4 a5 a6 a7 b0 b3 b4 hf hkd hX1 hH1 hB1
  go_wp2_with fail
  refine Calls.mono hS.out ?_
  rintro e w3 ⟨rfl, hb3⟩
  have hX3 := hide (hX2.out.kept hb3)
  have hH3 := hide (hH2.out.below hb3)
  have hd3 := hide (hd2.out.kept hb3)
  obtain ⟨a0, a1, a2, a3, a4, a5, a6, a7, a8, a9, a10⟩ := hX3.out.cells hi
  have hX4 := hide (hX3.out.putD hi hbd.out hd3.out h2 h3 h4.out)
  have hH4 := hide (hH3.out.putD (i := i) (d' := d') (p' := p') (F' := F') (.pointer (some ⟨d', 0, none⟩)) (by omega) (by omega) fun j hj => by have := h4.out j hj; omega)
  clear hX2 hH2 hS hd2 hb3
  go_wp2_with fail
  go_ret
  exact ⟨rfl, _, _, _, _, hX4.out, hH4.out⟩
end CW
end Go.Proofs.YteebghoijaaakaaGreat

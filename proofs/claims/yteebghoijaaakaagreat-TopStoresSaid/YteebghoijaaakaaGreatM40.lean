/- Part 40 of the proof: texts joined by this repo's tools/merge2.py (Hop2). By the prover of this repo. -/
import Derived.Test.YteebghoijaaakaaGreatM38
import Derived.Deep.RegionHeld3
set_option linter.unusedVariables false
set_option linter.unusedSimpArgs false
/- The walk of crowd.hop: Merge of what is too much. By the prover of this repo. -/
namespace Go.Proofs.YteebghoijaaakaaGreat
namespace CW
open Go.RowKit
open TwigM RollM StoM TopM

set_option maxRecDepth 100000 in
set_option maxHeartbeats 4000000 in
theorem hop_mrgn (c gd gb n cd cb : Nat) (L : Int) (D : Nat → Int) (s : Nat → DS) (d p : Nat → Nat) (v : Nat → Value) (Fs : Nat → Nat → Prop) (w : World) (hX : CrowdX w c gd gb n cd cb L D s d p v Fs) (hL1 : 1 ≤ L) (hL : L ≤ 10) (hn1 : 1 ≤ n) (hn5 : n ≤ 5) (hf : ∀ j, j < n → Fit L (s j)) (hkd : ∀ j, j < n → Kd (D j))
    (on oth x m : Int) (hon : -9223372036854775808 ≤ on ∧ on ≤ 9223372036854775807) (hoth : -9223372036854775808 ≤ oth ∧ oth ≤ 9223372036854775807) (hx : -9223372036854775808 ≤ x ∧ x ≤ 9223372036854775807) (hm : -9223372036854775808 ≤ m ∧ m ≤ 9223372036854775807)
    (i k : Nat) (hi : i < n) (hk : k < n) (hai : atF on n = i) (hak : atF oth n = k) (hfull : 72057594037927935 < sumL (s i).2.1 + sumL (s k).2.1) :
    Calls Tryz.prog 7 #[.pointer (some ⟨c, 0, none⟩), .agg #[.int .i64 2, .int .i64 on, .int .i64 oth, .int .i64 x, .int .i64 m]] w
      (HopOut w c gd gb n cd cb L d p v Fs D (up s i (TopM.oneF L (s i) (s k) (2, on, oth, x, m)))) := by
  have hA1 := hide (fun (e : Later (w.alloc (.cells #[.int .i64 2, .int .i64 on, .int .i64 oth, .int .i64 x, .int .i64 m] 30)).heap.size (w.alloc (.cells #[.int .i64 2, .int .i64 on, .int .i64 oth, .int .i64 x, .int .i64 m] 30))) => at_c on n e.val (by omega) (by omega) hon.1 hon.2)
  have hA2 := hide (fun (e : Later (w.alloc (.cells #[.int .i64 2, .int .i64 on, .int .i64 oth, .int .i64 x, .int .i64 m] 30)).heap.size (w.alloc (.cells #[.int .i64 2, .int .i64 on, .int .i64 oth, .int .i64 x, .int .i64 m] 30))) => at_c oth n e.val (by omega) (by omega) hoth.1 hoth.2)
  rw [hai] at hA1
  rw [hak] at hA2
  obtain ⟨hb, hhb⟩ : ∃ hb, w.heap.size = hb := ⟨_, rfl⟩
  have hX0 := hide (hX.kept (balloc0 w (.cells #[.int .i64 2, .int .i64 on, .int .i64 oth, .int .i64 x, .int .i64 m] 30)))
  have hH0 := hide ((Hp.start w c gd gb n d p v Fs).below (balloc0 w (.cells #[.int .i64 2, .int .i64 on, .int .i64 oth, .int .i64 x, .int .i64 m] 30)))
  have hB0 := Blk.made w 30 #[.int .i64 2, .int .i64 on, .int .i64 oth, .int .i64 x, .int .i64 m]
  rw [hhb] at hB0
  have hz0 : hb < (w.alloc (.cells #[.int .i64 2, .int .i64 on, .int .i64 oth, .int .i64 x, .int .i64 m] 30)).heap.size := hB0.lt
  have hB0 := hide hB0
  have hgl : gd < hb ∧ gb < hb ∧ c < hb := by have := hX.gdlt; have := hX.gblt; have := hX.blk.lt; omega
  clear hX
  go_enter Tryz.func7, Tryz.ntmps7
  go_wp2_with fail

  generalize (w.alloc (.cells #[.int .i64 2, .int .i64 on, .int .i64 oth, .int .i64 x, .int .i64 m] 30)) = W0 at *
  obtain ⟨a0, -, a1, a2, a3, a4, -, -, -, -, -⟩ := hX0.out.cells hi
  have a5 : W0.cell? ⟨hb, 1, none⟩ = some (.int .i64 on) := hB0.out.cell 1
  have a6 : W0.cell? ⟨hb, 2, none⟩ = some (.int .i64 oth) := hB0.out.cell 2
  refine wp_region_later (by kernel_rfl) (by kernel_rfl) ?_
  repeat (go_big_quiet_step (first
    | (go_at_call 8; (with_reducible exact calls_later_same (hA1.out _)))
    | (go_at_call 8; (with_reducible exact calls_later_same (hA2.out _)))
    | exact rfl))
  refine wpQuiet_nil ?_
  rintro _ ⟨e1, rfl⟩
  have hX1 := hide (hX0.out.kept e1.property)
  have hH1 := hide (hH0.out.below e1.property)
  have hB1 := hide (hB0.out.kept e1.property)
  have hz1 : hb < e1.val.heap.size := by have := e1.property.size; omega
  have hzw : w.heap.size ≤ hb := by omega
  generalize e1.val = W1 at *
  clear e1 a0 a1 a2 a3 a4 a5 a6 hX0 hH0 hB0 hA1 hA2 hz0 hhb hai hak
  obtain ⟨a0, a1, a2, a3, a4, a5, a6, a7, -, -, -⟩ := hX1.out.cells hi
  have b0 : W1.cell? ⟨hb, 0, none⟩ = some (.int .i64 2) := hB1.out.cell 0
  have b3 : W1.cell? ⟨hb, 3, none⟩ = some (.int .i64 x) := hB1.out.cell 3
  have b4 : W1.cell? ⟨hb, 4, none⟩ = some (.int .i64 m) := hB1.out.cell 4
  have hdi := hX1.out.dig i hi
  have hfi := hf i hi
  have hfk := hf k hk
  have hdk := hX1.out.dig k hk
  have hpour := hfi.pour hfk
  obtain ⟨q0, -, -, -, -, q5, q6, q7, -, -, -⟩ := hX1.out.cells hk
  clear q0 q6 q7 b3 b4
  have hM := hide (merge_no (d i) (d k) (p i) (p k) (s i).1 (s k).1 (D i) (D k) L (s i).2.1 (s k).2.1 (Fs i) (Fs k) W1 hdi hdk hfull)
  rw [if_pos hfull] at hpour
  have hone : Hid (TopM.oneF L (s i) (s k) (2, on, oth, x, m) = s i) := by show _ = _; unfold TopM.oneF; simp [hfull]
  go_wp2_with fail
  refine Calls.mono hM.out ?_
  rintro e w2 ⟨rfl, hb2⟩
  have hX2 := hide (hX1.out.kept hb2)
  have hH2 := hide (hH1.out.below hb2)
  have hz12 := hb2.size
  have hN1 := hX2.out.nds i hi
  have hN2 := hX2.out.nds k hk
  have hvl := hX2.out.vlt i hi
  have hA := hide (fun W (hW : Below w2.heap.size w2 W) => BG.rpour_c L L (s i).2.2 (s k).2.2 (v i) (v k) W (hN1.kept hW) (hN2.kept hW) hfi.inv.ok hfk.inv.ok (by have := hfi.blen; omega) (by have := hfk.blen; omega) fun j hj => by have := (hvl j hj).1; have := hW.size; omega)
  rw [hpour] at hA
  obtain ⟨A0, c0, hv0, -, -, -, -⟩ := hN1
  obtain ⟨Ak, ck, hvk, -, -, -, -⟩ := hN2
  have hK := hide (fun W (hW : Below w2.heap.size w2 W) => hX2.out.kept hW)
  have hKH := hide (fun W (hW : Below w2.heap.size w2 W) => hH2.out.below hW)
  clear a0 a1 a2 a3 a4 a5 a6 a7 q5 hdi hdk hf hpour b0 hB1 hX1 hH1
  have hcc := hX2.out.cells hi
  have hck := hX2.out.cells hk
  rw [hv0] at hcc
  rw [hvk] at hck
  obtain ⟨a0, a1, a2, a3, a4, -, a5, a6, -, -, -⟩ := hcc
  obtain ⟨-, -, -, -, -, -, q5, q6, -, -, -⟩ := hck
  rw [hv0, hvk] at hA
  have hv0 := hide hv0
  have hvk := hide hvk
  have hvl := hide hvl
  unfold BG.RGives at hA
  unfold BG.rb at hA
  have n1 : ¬ gb = w2.heap.size := by omega
  have n0 : ¬ c = w2.heap.size := by omega
  have o0 : w2.heap.size ≠ c := by omega
  have o1 : w2.heap.size ≠ gb := by omega
  go_wp2_with fail
  go_region_held3 (fun w' => w'.cell? ⟨c, 2, none⟩ = some (.slice (some ⟨gb, 0, none⟩) n cb) ∧ w'.cell? ⟨gb, i * 2, none⟩ = some (.int .i64 L) ∧ w'.cell? ⟨gb, i * 2 + 1, none⟩ = some (.slice A0 (s i).2.2.length c0) ∧ w'.cell? ⟨gb, k * 2, none⟩ = some (.int .i64 L) ∧ w'.cell? ⟨gb, k * 2 + 1, none⟩ = some (.slice Ak (s k).2.2.length ck))
    (go_keep)
    (first
      | (go_at_call 21; (with_reducible refine (hA.out _ (Below.refl w2.heap.size w2).drew).mono ?_); rintro e wa ⟨u, rfl, hn2, h5, hv2⟩; replace h5 := (Below.refl _ _).drew.trans h5; have hn2b := hn2; obtain ⟨A2, c2, rfl, -, -, -, -⟩ := hn2b; have hn2 := hide hn2; have h5 := hide h5; have hv2 := hide hv2; have hcc := (hK.out _ h5.out).cells hi; rw [hv0.out] at hcc; have hck := (hK.out _ h5.out).cells hk; rw [hvk.out] at hck; obtain ⟨-, s0, t0, -, t1, -, s1, s2, -, -, -⟩ := hcc; obtain ⟨-, -, -, -, -, -, s3, s4, -, -, -⟩ := hck; have n0 : ¬ c = wa.heap.size := (by omega); have n1 : ¬ gb = wa.heap.size := (by omega); have o0 : wa.heap.size ≠ c := (by omega); have o1 : wa.heap.size ≠ gb := (by omega))
      | (go_at_call 21; (with_reducible refine (hA.out _ (balloc0 w2 (.cells #[.int .i64 0, .slice none 0 0] 53)).drew).mono ?_); rintro e wb ⟨u, rfl, hn2, h5, hv2⟩; have hy := hide (show Blk wb w2.heap.size 53 #[.int .i64 0, .slice none 0 0] from Blk.kept (w := (w2.alloc (.cells #[.int .i64 0, .slice none 0 0] 53)).drew) (Blk.made w2 53 #[.int .i64 0, .slice none 0 0]) h5); replace h5 := (balloc0 w2 (.cells #[.int .i64 0, .slice none 0 0] 53)).drew.trans (h5.mono (by simp)); have hn2b := hn2; obtain ⟨A2, c2, rfl, -, -, -, -⟩ := hn2b; have y0 : wb.cell? ⟨w2.heap.size, 0, none⟩ = some (.int .i64 0) := hy.out.cell 0; have y1 : wb.cell? ⟨w2.heap.size, 1, none⟩ = some (.slice none 0 0) := hy.out.cell 1; have y2 := hy.out.lt; have y3 := hy.out.free 0; have y4 := hy.out.free 1; have hn2 := hide hn2; have h5 := hide h5; have hv2 := hide hv2; have hcc := (hK.out _ h5.out).cells hi; rw [hv0.out] at hcc; have hck := (hK.out _ h5.out).cells hk; rw [hvk.out] at hck; obtain ⟨-, s0, t0, -, t1, -, s1, s2, -, -, -⟩ := hcc; obtain ⟨-, -, -, -, -, -, s3, s4, -, -, -⟩ := hck; have n0 : ¬ c = wb.heap.size := (by omega); have n1 : ¬ gb = wb.heap.size := (by omega); have o0 : wb.heap.size ≠ c := (by omega); have o1 : wb.heap.size ≠ gb := (by omega)))
  · have bl := hide (h5.out.trans (balloc0 wa (.cells #[.int .i64 L, .slice A2 (s i).2.2.length c2] 53) |>.mono h5.out.size))
    have hX3 := hide (hK.out _ bl.out)
    have hH3 := hide (hKH.out _ bl.out)
    clear hK hKH hA h5 hv2 hn2
    go_wp2_with fail
    go_ret
    refine ⟨rfl, _, _, _, _, ?_, hH3.out⟩
    rw [hone.out, up_self]
    exact hX3.out
  · have bl := hide ((h5.out.setCell (p := ⟨w2.heap.size, 0, none⟩) (Nat.le_refl _) (.int .i64 L)).setCell (p := ⟨w2.heap.size, 1, none⟩) (Nat.le_refl _) (.slice A2 (s i).2.2.length c2))
    have hX3 := hide (hK.out _ bl.out)
    have hH3 := hide (hKH.out _ bl.out)
    clear hK hKH hA h5 hv2 hn2
    go_wp2_with fail
    go_ret
    refine ⟨rfl, _, _, _, _, ?_, hH3.out⟩
    rw [hone.out, up_self]
    exact hX3.out
end CW
end Go.Proofs.YteebghoijaaakaaGreat

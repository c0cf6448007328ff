/- Part 43 of the proof: texts joined by this repo's tools/merge2.py (Hop5). By the prover of this repo. -/
import Derived.Test.YteebghoijaaakaaGreatM38
set_option linter.unusedVariables false
set_option linter.unusedSimpArgs false
/- The walk of crowd.hop: Clone. By the prover of this repo. -/
namespace Go.Proofs.YteebghoijaaakaaGreat
namespace CW
open Go.RowKit
open TwigM RollM StoM TopM

set_option maxRecDepth 100000 in
set_option maxHeartbeats 4000000 in
theorem hop_cln (c gd gb n cd cb : Nat) (L : Int) (D : Nat → Int) (s : Nat → DS) (d p : Nat → Nat) (v : Nat → Value) (Fs : Nat → Nat → Prop) (w : World) (hX : CrowdX w c gd gb n cd cb L D s d p v Fs) (hL1 : 1 ≤ L) (hL : L ≤ 10) (hn1 : 1 ≤ n) (hn5 : n ≤ 5) (hf : ∀ j, j < n → Fit L (s j)) (hkd : ∀ j, j < n → Kd (D j))
    (on oth x m : Int) (hon : -9223372036854775808 ≤ on ∧ on ≤ 9223372036854775807) (hoth : -9223372036854775808 ≤ oth ∧ oth ≤ 9223372036854775807) (hx : -9223372036854775808 ≤ x ∧ x ≤ 9223372036854775807) (hm : -9223372036854775808 ≤ m ∧ m ≤ 9223372036854775807)
    (i k : Nat) (hi : i < n) (hk : k < n) (hai : atF on n = i) (hak : atF oth n = k) :
    Calls Tryz.prog 7 #[.pointer (some ⟨c, 0, none⟩), .agg #[.int .i64 5, .int .i64 on, .int .i64 oth, .int .i64 x, .int .i64 m]] w
      (HopOut w c gd gb n cd cb L d p v Fs D (up s i (TopM.oneF L (s i) (s k) (5, on, oth, x, m)))) := by
  have hA1 := hide (fun (e : Later (w.alloc (.cells #[.int .i64 5, .int .i64 on, .int .i64 oth, .int .i64 x, .int .i64 m] 30)).heap.size (w.alloc (.cells #[.int .i64 5, .int .i64 on, .int .i64 oth, .int .i64 x, .int .i64 m] 30))) => at_c on n e.val (by omega) (by omega) hon.1 hon.2)
  have hA2 := hide (fun (e : Later (w.alloc (.cells #[.int .i64 5, .int .i64 on, .int .i64 oth, .int .i64 x, .int .i64 m] 30)).heap.size (w.alloc (.cells #[.int .i64 5, .int .i64 on, .int .i64 oth, .int .i64 x, .int .i64 m] 30))) => at_c oth n e.val (by omega) (by omega) hoth.1 hoth.2)
  rw [hai] at hA1
  rw [hak] at hA2
  obtain ⟨hb, hhb⟩ : ∃ hb, w.heap.size = hb := ⟨_, rfl⟩
  have hX0 := hide (hX.kept (balloc0 w (.cells #[.int .i64 5, .int .i64 on, .int .i64 oth, .int .i64 x, .int .i64 m] 30)))
  have hH0 := hide ((Hp.start w c gd gb n d p v Fs).below (balloc0 w (.cells #[.int .i64 5, .int .i64 on, .int .i64 oth, .int .i64 x, .int .i64 m] 30)))
  have hB0 := Blk.made w 30 #[.int .i64 5, .int .i64 on, .int .i64 oth, .int .i64 x, .int .i64 m]
  rw [hhb] at hB0
  have hz0 : hb < (w.alloc (.cells #[.int .i64 5, .int .i64 on, .int .i64 oth, .int .i64 x, .int .i64 m] 30)).heap.size := hB0.lt
  have hB0 := hide hB0
  clear hX
  go_enter Tryz.func7, Tryz.ntmps7
  go_wp2_with fail

  generalize (w.alloc (.cells #[.int .i64 5, .int .i64 on, .int .i64 oth, .int .i64 x, .int .i64 m] 30)) = W0 at *
  obtain ⟨a0, -, a1, a2, a3, a4, -, -, -, -, -⟩ := hX0.out.cells hi
  have a5 : W0.cell? ⟨hb, 1, none⟩ = some (.int .i64 on) := hB0.out.cell 1
  have a6 : W0.cell? ⟨hb, 2, none⟩ = some (.int .i64 oth) := hB0.out.cell 2
  refine wp_region_later (by kernel_rfl) (by kernel_rfl) ?_
  repeat (go_big_quiet_step (first
    | (go_at_call 8; (with_reducible exact calls_later_same (hA1.out _)))
    | (go_at_call 8; (with_reducible exact calls_later_same (hA2.out _)))
    | exact rfl))
  refine wpQuiet_nil ?_
  rintro _ ⟨e1, rfl⟩
  have hX1 := hide (hX0.out.kept e1.property)
  have hH1 := hide (hH0.out.below e1.property)
  have hB1 := hide (hB0.out.kept e1.property)
  have hz1 : hb < e1.val.heap.size := by have := e1.property.size; omega
  have hzw : w.heap.size ≤ hb := by omega
  generalize e1.val = W1 at *
  clear e1 a0 a1 a2 a3 a4 a5 a6 hX0 hH0 hB0 hA1 hA2 hz0 hhb hai hak
  obtain ⟨a0, a1, a2, a3, a4, a5, a6, a7, -, -, -⟩ := hX1.out.cells hi
  have b0 : W1.cell? ⟨hb, 0, none⟩ = some (.int .i64 5) := hB1.out.cell 0
  have b3 : W1.cell? ⟨hb, 3, none⟩ = some (.int .i64 x) := hB1.out.cell 3
  have b4 : W1.cell? ⟨hb, 4, none⟩ = some (.int .i64 m) := hB1.out.cell 4
  have hdi := hX1.out.dig i hi
  have hC := hide (fun W (hW : Below W1.heap.size W1 W) => digest_clone (d i) (p i) (s i).1 (D i) L (s i).2.1 (Fs i) W (hdi.kept hW))
  have hone : TopM.oneF L (s i) (s k) (5, on, oth, x, m) = s i := by unfold TopM.oneF; simp
  rw [hone]
  have hbd := hide (hX1.out.bnd (Nat.le_refl _))
  have hK := hide (fun W (hW : Below W1.heap.size W1 W) => hX1.out.kept hW)
  have hKH := hide (fun W (hW : Below W1.heap.size W1 W) => hH1.out.below hW)
  have hzW : w.heap.size ≤ W1.heap.size := by omega
  clear hone b3 b4 hf hkd hX1 hH1
  have hdi := hide hdi
  have a8 := (hK.out W1 (Below.refl _ _)).cells hi
  obtain ⟨-, -, -, -, -, -, -, -, a8, -, -⟩ := a8
  go_wp2_with fail
  go_region_with (go_at_call 24; (with_reducible refine (hC.out _ (Below.refl _ _).drew).mono ?_); rintro e w2 ⟨d', p', F', rfl, h1, h2, h3, h4, h5⟩; replace h5 := (Below.refl _ _).drew.trans h5; have hX2 := hide (hK.out _ h5); have hH2 := hide (hKH.out _ h5); have hcc := hX2.out.cells hi; obtain ⟨c0, -, c1, c2, -, c3, -, -, c4, -, -⟩ := hcc; have h1 := hide h1; have h4 := hide h4; have h5 := hide h5)
  all_goals
    have hX3 := hide (hX2.out.putD hi hbd.out h1.out h2 h3 h4.out)
    have hH3 := hide (hH2.out.putD (i := i) (d' := d') (p' := p') (F' := F') (.pointer (some ⟨d', 0, none⟩)) (Nat.le_trans hzW h2) (Nat.le_trans hzW h3) fun j hj => Nat.le_trans hzW (h4.out j hj))
    have e1 := hX3.out.dig i hi
    rw [up_same, up_same, up_same, up_same, up_same] at e1
    have e2 := (hdi.out.kept h5.out).off (Turn.setCell w2 (fun j => j = gd) ⟨gd, i, none⟩ (.pointer (some ⟨d', 0, none⟩)) rfl) (hX2.out.dne i hi).1 (hX2.out.dne i hi).2.2.1 fun j hj e => by subst e; exact (hX2.out.cne.2.2.2 i hi).2.1 hj
    have hS := hide (digest_same d' (d i) p' (p i) (s i).1 (D i) (D i) L (s i).2.1 F' (Fs i) _ e1 e2)
    clear e1 e2 c0 c1 c2 c3 c4 a0 a1 a2 a3 a4 a5 a6 a7 a8 hX2 hH2 hC h1 h4 h5 hdi hK hKH hbd
    rw [up_self] at hX3
    generalize w2.setCell ⟨gd, i, none⟩ (.pointer (some ⟨d', 0, none⟩)) = w3 at *
    have hcc := hX3.out.cells hi
    rw [up_same] at hcc
    obtain ⟨c0, -, c1, c2, -, c3, -, -, -, -, -⟩ := hcc
    go_wp2_with fail
    refine Calls.mono hS.out ?_
    rintro e w4 ⟨rfl, hb4⟩
    have hX4 := hide (hX3.out.kept hb4)
    have hH4 := hide (hH3.out.below hb4)
    go_wp2_with fail
    go_ret
    exact ⟨rfl, _, _, _, _, hX4.out, hH4.out⟩
end CW
end Go.Proofs.YteebghoijaaakaaGreat

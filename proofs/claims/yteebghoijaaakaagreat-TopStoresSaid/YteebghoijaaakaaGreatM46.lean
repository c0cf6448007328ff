/- Part 46 of the proof: texts joined by this repo's tools/merge2.py (HopI). By the prover of this repo. -/
import Derived.Test.YteebghoijaaakaaGreatM38
import Derived.Deep.RegionHeld3
set_option linter.unusedVariables false
set_option linter.unusedSimpArgs false
/- The walk of crowd.hop: Insert. By the prover of this repo. -/
namespace Go.Proofs.YteebghoijaaakaaGreat
namespace CW
open Go.RowKit
open TwigM RollM StoM TopM

set_option maxRecDepth 100000 in
set_option maxHeartbeats 4000000 in
theorem hop_ins (c gd gb n cd cb : Nat) (L : Int) (D : Nat → Int) (s : Nat → DS) (d p : Nat → Nat) (v : Nat → Value) (Fs : Nat → Nat → Prop) (w : World) (hX : CrowdX w c gd gb n cd cb L D s d p v Fs) (hL1 : 1 ≤ L) (hL : L ≤ 10) (hn1 : 1 ≤ n) (hn5 : n ≤ 5) (hf : ∀ j, j < n → Fit L (s j)) (hkd : ∀ j, j < n → Kd (D j))
    (kk on oth x m : Int) (hon : -9223372036854775808 ≤ on ∧ on ≤ 9223372036854775807) (hoth : -9223372036854775808 ≤ oth ∧ oth ≤ 9223372036854775807) (hx : -9223372036854775808 ≤ x ∧ x ≤ 9223372036854775807) (hm : -9223372036854775808 ≤ m ∧ m ≤ 9223372036854775807)
    (i k : Nat) (hi : i < n) (hk : k < n) (hai : atF on n = i) (hak : atF oth n = k) (hk1 : kk ≠ 1) (hk2 : kk ≠ 2) (hk3 : kk ≠ 3) (hk4 : kk ≠ 4) (hk5 : kk ≠ 5) (hk6 : kk ≠ 6) (hk7 : kk ≠ 7) (hk8 : kk ≠ 8) (hk9 : kk ≠ 9) (hin : insE L x m (sumL (s i).2.1) = 0) :
    Calls Tryz.prog 7 #[.pointer (some ⟨c, 0, none⟩), .agg #[.int .i64 kk, .int .i64 on, .int .i64 oth, .int .i64 x, .int .i64 m]] w
      (HopOut w c gd gb n cd cb L d p v Fs D (up s i (TopM.oneF L (s i) (s k) (kk, on, oth, x, m)))) := by
  have hA1 := hide (fun (e : Later (w.alloc (.cells #[.int .i64 kk, .int .i64 on, .int .i64 oth, .int .i64 x, .int .i64 m] 30)).heap.size (w.alloc (.cells #[.int .i64 kk, .int .i64 on, .int .i64 oth, .int .i64 x, .int .i64 m] 30))) => at_c on n e.val (by omega) (by omega) hon.1 hon.2)
  have hA2 := hide (fun (e : Later (w.alloc (.cells #[.int .i64 kk, .int .i64 on, .int .i64 oth, .int .i64 x, .int .i64 m] 30)).heap.size (w.alloc (.cells #[.int .i64 kk, .int .i64 on, .int .i64 oth, .int .i64 x, .int .i64 m] 30))) => at_c oth n e.val (by omega) (by omega) hoth.1 hoth.2)
  rw [hai] at hA1
  rw [hak] at hA2
  obtain ⟨hb, hhb⟩ : ∃ hb, w.heap.size = hb := ⟨_, rfl⟩
  have hX0 := hide (hX.kept (balloc0 w (.cells #[.int .i64 kk, .int .i64 on, .int .i64 oth, .int .i64 x, .int .i64 m] 30)))
  have hH0 := hide ((Hp.start w c gd gb n d p v Fs).below (balloc0 w (.cells #[.int .i64 kk, .int .i64 on, .int .i64 oth, .int .i64 x, .int .i64 m] 30)))
  have hB0 := Blk.made w 30 #[.int .i64 kk, .int .i64 on, .int .i64 oth, .int .i64 x, .int .i64 m]
  rw [hhb] at hB0
  have hz0 : hb < (w.alloc (.cells #[.int .i64 kk, .int .i64 on, .int .i64 oth, .int .i64 x, .int .i64 m] 30)).heap.size := hB0.lt
  have hB0 := hide hB0
  have hgl : gd < hb ∧ gb < hb ∧ c < hb := by have := hX.gdlt; have := hX.gblt; have := hX.blk.lt; omega
  clear hX
  go_enter Tryz.func7, Tryz.ntmps7
  go_wp2_with fail

  generalize (w.alloc (.cells #[.int .i64 kk, .int .i64 on, .int .i64 oth, .int .i64 x, .int .i64 m] 30)) = W0 at *
  obtain ⟨a0, -, a1, a2, a3, a4, -, -, -, -, -⟩ := hX0.out.cells hi
  have a5 : W0.cell? ⟨hb, 1, none⟩ = some (.int .i64 on) := hB0.out.cell 1
  have a6 : W0.cell? ⟨hb, 2, none⟩ = some (.int .i64 oth) := hB0.out.cell 2
  refine wp_region_later (by kernel_rfl) (by kernel_rfl) ?_
  repeat (go_big_quiet_step (first
    | (go_at_call 8; (with_reducible exact calls_later_same (hA1.out _)))
    | (go_at_call 8; (with_reducible exact calls_later_same (hA2.out _)))
    | exact rfl))
  refine wpQuiet_nil ?_
  rintro _ ⟨e1, rfl⟩
  have hX1 := hide (hX0.out.kept e1.property)
  have hH1 := hide (hH0.out.below e1.property)
  have hB1 := hide (hB0.out.kept e1.property)
  have hz1 : hb < e1.val.heap.size := by have := e1.property.size; omega
  have hzw : w.heap.size ≤ hb := by omega
  generalize e1.val = W1 at *
  clear e1 a0 a1 a2 a3 a4 a5 a6 hX0 hH0 hB0 hA1 hA2 hz0 hhb hai hak
  obtain ⟨a0, a1, a2, a3, a4, a5, a6, a7, -, -, -⟩ := hX1.out.cells hi
  have b0 : W1.cell? ⟨hb, 0, none⟩ = some (.int .i64 kk) := hB1.out.cell 0
  have b3 : W1.cell? ⟨hb, 3, none⟩ = some (.int .i64 x) := hB1.out.cell 3
  have b4 : W1.cell? ⟨hb, 4, none⟩ = some (.int .i64 m) := hB1.out.cell 4
  have hdi := hX1.out.dig i hi
  have k1 : (kk == 1) = false := by simpa using hk1
  have k2 : (kk == 2) = false := by simpa using hk2
  have k3 : (kk == 3) = false := by simpa using hk3
  have k4 : (kk == 4) = false := by simpa using hk4
  have k5 : (kk == 5) = false := by simpa using hk5
  have k6 : (kk == 6) = false := by simpa using hk6
  have k7 : (kk == 7) = false := by simpa using hk7
  have k8 : (kk == 8) = false := by simpa using hk8
  have k9 : (kk == 9) = false := by simpa using hk9
  have hfi := hf i hi
  have hN1 := hX1.out.nds i hi
  have hvl := hX1.out.vlt i hi
  have hcode := hfi.code x m
  have hA := hide (fun W (hW : Below W1.heap.size W1 W) => BG.radd_c x m L (s i).2.2 (v i) W (hN1.kept hW) hfi.inv.ok (by have := hfi.blen; omega) ⟨hL1, by omega⟩ fun j hj => by have := (hvl j hj).1; have := hW.size; omega)
  rw [hcode] at hA
  have hms := hfi.meas hL1 hL
  have hll := hfi.len
  obtain ⟨A0, c0, hv0, -, -, -, -⟩ := hN1
  have hK := hide (fun W (hW : Below W1.heap.size W1 W) => hX1.out.kept hW)
  have hKH := hide (fun W (hW : Below W1.heap.size W1 W) => hH1.out.below hW)
  have hKB := hide (fun W (hW : Below W1.heap.size W1 W) => hB1.out.kept hW)
  have hok := hide (fun (u : Value) (W : World) => hX1.out.okV (w' := W) hi (u := u))
  have hvl := hide hvl
  have hzW : w.heap.size ≤ W1.heap.size := by omega
  rw [hv0] at a7 hA hvl
  have hv0 := hide hv0
  clear hf hkd hcode hdi
  rw [if_pos hin, hin] at hA
  have hxs : 0 ≤ x ∧ x < pw L ∧ 1 ≤ m ∧ sumL (s i).2.1 + m ≤ 72057594037927935 := by
    unfold insE at hin
    by_cases e1 : 0 ≤ x ∧ x < pw L
    · by_cases e2 : m < 1
      · simp [e1, e2] at hin
      · by_cases e3 : 72057594037927935 < sumL (s i).2.1 + m
        · simp [e1, e2, e3] at hin
        · omega
    · simp [e1] at hin
  have hone : Hid (TopM.oneF L (s i) (s k) (kk, on, oth, x, m) = ((s i).1, (insF L (s i).1 x m (s i).2.1, BagM.put x m (s i).2.2))) := by
    show _ = _
    unfold TopM.oneF
    simp only [hk1, hk2, hk3, hk4, hk5, hk6, hk7, hk8, hk9, hin, if_false, if_true, or_self]
  have hin := hide hin
  unfold BG.RGives at hA
  unfold BG.rb at hA
  have n0 : ¬ c = W1.heap.size := by omega
  have n1 : ¬ gb = W1.heap.size := by omega
  have n2 : ¬ hb = W1.heap.size := by omega
  have o0 : W1.heap.size ≠ c := by omega
  have o1 : W1.heap.size ≠ gb := by omega
  have o2 : W1.heap.size ≠ hb := by omega
  go_wp2_with fail
  go_region_held3 (fun w' => w'.cell? ⟨c, 2, none⟩ = some (.slice (some ⟨gb, 0, none⟩) n cb) ∧ w'.cell? ⟨gb, i * 2, none⟩ = some (.int .i64 L) ∧ w'.cell? ⟨gb, i * 2 + 1, none⟩ = some (.slice A0 (s i).2.2.length c0) ∧ w'.cell? ⟨hb, 3, none⟩ = some (.int .i64 x) ∧ w'.cell? ⟨hb, 4, none⟩ = some (.int .i64 m))
    (go_keep)
    (first
      | (go_at_call 27; (with_reducible refine (hA.out _ (Below.refl W1.heap.size W1).drew).mono ?_); rintro e w2 ⟨u, rfl, hn2, h5, hv2⟩; replace h5 := (Below.refl _ _).drew.trans h5; have hn2b := hn2; obtain ⟨A2, c2, rfl, -, -, -, -⟩ := hn2b; have hn2 := hide hn2; have h5 := hide h5; have hv2 := hide hv2; have hcc := (hK.out _ h5.out).cells hi; rw [hv0.out] at hcc; obtain ⟨-, s0, t0, -, t1, -, s1, s2, -, -, -⟩ := hcc; have bhb := hKB.out _ h5.out; have t2 := bhb.lt; have s3 : w2.cell? ⟨hb, 3, none⟩ = some (.int .i64 x) := bhb.cell 3; have s4 : w2.cell? ⟨hb, 4, none⟩ = some (.int .i64 m) := bhb.cell 4;  clear bhb; have n0 : ¬ c = w2.heap.size := (by omega); have n1 : ¬ gb = w2.heap.size := (by omega); have n2 : ¬ hb = w2.heap.size := (by omega); have o0 : w2.heap.size ≠ c := (by omega); have o1 : w2.heap.size ≠ gb := (by omega); have o2 : w2.heap.size ≠ hb := (by omega))
      | (go_at_call 27; (with_reducible refine (hA.out _ (balloc0 W1 (.cells #[.int .i64 0, .slice none 0 0] 53)).drew).mono ?_); rintro e wb ⟨u, rfl, hn2, h5, hv2⟩; have hy := hide (show Blk wb W1.heap.size 53 #[.int .i64 0, .slice none 0 0] from Blk.kept (w := (W1.alloc (.cells #[.int .i64 0, .slice none 0 0] 53)).drew) (Blk.made W1 53 #[.int .i64 0, .slice none 0 0]) h5); replace h5 := (balloc0 W1 (.cells #[.int .i64 0, .slice none 0 0] 53)).drew.trans (h5.mono (by simp)); have hn2b := hn2; obtain ⟨A2, c2, rfl, -, -, -, -⟩ := hn2b; have y0 : wb.cell? ⟨W1.heap.size, 0, none⟩ = some (.int .i64 0) := hy.out.cell 0; have y1 : wb.cell? ⟨W1.heap.size, 1, none⟩ = some (.slice none 0 0) := hy.out.cell 1; have y2 := hy.out.lt; have y3 := hy.out.free 0; have y4 := hy.out.free 1; have hn2 := hide hn2; have h5 := hide h5; have hv2 := hide hv2; have hcc := (hK.out _ h5.out).cells hi; rw [hv0.out] at hcc; obtain ⟨-, s0, t0, -, t1, -, s1, s2, -, -, -⟩ := hcc; have bhb := hKB.out _ h5.out; have t2 := bhb.lt; have s3 : wb.cell? ⟨hb, 3, none⟩ = some (.int .i64 x) := bhb.cell 3; have s4 : wb.cell? ⟨hb, 4, none⟩ = some (.int .i64 m) := bhb.cell 4;  clear bhb; have n0 : ¬ c = wb.heap.size := (by omega); have n1 : ¬ gb = wb.heap.size := (by omega); have n2 : ¬ hb = wb.heap.size := (by omega); have o0 : wb.heap.size ≠ c := (by omega); have o1 : wb.heap.size ≠ gb := (by omega); have o2 : wb.heap.size ≠ hb := (by omega)))
  · have bl := hide (h5.out.trans (balloc0 w2 (.cells #[.int .i64 L, .slice A2 (BagM.put x m (s i).2.2).length c2] 53) |>.mono h5.out.size))
    have hX3 := hide (hK.out _ bl.out)
    have hH3 := hide (hKH.out _ bl.out)
    have bN := hide (Blk.made w2 53 #[.int .i64 L, .slice A2 (BagM.put x m (s i).2.2).length c2])
    have bB := hide (hKB.out _ bl.out)
    have hn3 := hide (hn2.out.kept (balloc0 w2 (.cells #[.int .i64 L, .slice A2 (BagM.put x m (s i).2.2).length c2] 53)))
    have hv3 : Hid (∀ j, (Value.slice A2 (BagM.put x m (s i).2.2).length c2).ownBlock = some j → j < (w2.alloc (.cells #[.int .i64 L, .slice A2 (BagM.put x m (s i).2.2).length c2] 53)).heap.size ∧ ((v i).ownBlock = some j ∨ W1.heap.size ≤ j)) := fun j hj => by
      obtain ⟨q1, q2⟩ := hv2.out j hj
      rw [hv0.out]
      refine ⟨(by simp; omega), ?_⟩
      rcases q2 with q2 | q2
      · exact .inl q2
      · right; first | exact q2 | exact Nat.le_of_succ_le (by simpa using q2) | (simp at q2; omega)
    have hne : ¬ w2.heap.size = gb := by omega
    clear hK hKH hKB hA h5 hv2
    obtain ⟨nb, hnb⟩ : ∃ nb, w2.heap.size = nb := ⟨_, rfl⟩
    generalize w2.alloc (.cells #[.int .i64 L, .slice A2 (BagM.put x m (s i).2.2).length c2] 53) = W3 at *
    rw [hnb] at bN hne ⊢
    clear hnb
    have hcc := hX3.out.cells hi
    rw [hv0.out] at hcc
    obtain ⟨-, r0, r1, -, r2, -, r3, r4, -, r5, r6⟩ := hcc
    have r7 : W3.cell? ⟨nb, 0, none⟩ = some (.int .i64 L) := bN.out.cell 0
    have r8 : W3.cell? ⟨nb, 1, none⟩ = some (.slice A2 (BagM.put x m (s i).2.2).length c2) := bN.out.cell 1
    have r9 := bN.out.lt
    have hX4 := hide (hX3.out.putV hi hn3.out (hok.out _ _ hv3.out))
    have hH4 := hide (hH3.out.putV (i := i) (turn_bag W3 gb i (.int .i64 L) (.slice A2 (BagM.put x m (s i).2.2).length c2)) (al_v hi hzW hv3.out))
    have bB4 := hide (bB.out.turned (turn_bag W3 gb i (.int .i64 L) (.slice A2 (BagM.put x m (s i).2.2).length c2)) (by omega))
    clear hn3 hX3 hH3 bN bB hv3 hok s0 s1 s2 s3 s4 t0 t1 t2 a0 a1 a2 a3 a4 a5 a6 a7
    go_wp2_with fail
    go_region
    all_goals
      clear r0 r1 r2 r3 r4 r5 r6 r7 r8 r9
      replace hX4 := hide (hX4.out.kept (Below.refl _ _).drew)
      replace hH4 := hide (hH4.out.below (Below.refl _ _).drew)
      replace bB4 := hide (bB4.out.kept (Below.refl _ _).drew)
      generalize ((W3.setCell ⟨gb, i * 2, none⟩ (.int .i64 L)).setCell ⟨gb, i * 2 + 1, none⟩ (.slice A2 (BagM.put x m (s i).2.2).length c2)).drew = W4 at *
      have g1 := bB4.out.lt
      have g2 : W4.cell? ⟨hb, 3, none⟩ = some (.int .i64 x) := bB4.out.cell 3
      have g3 : W4.cell? ⟨hb, 4, none⟩ = some (.int .i64 m) := bB4.out.cell 4
      have e1 := hX4.out.dig i hi
      rw [up_same] at e1
      have hI := hide (digest_insert (d i) (p i) (s i).1 (D i) L x m (s i).2.1 (Fs i) W4 e1 hxs.1 hxs.2.1 hxs.2.2.1 hxs.2.2.2 hms (by omega))
      clear e1
      go_wp2_with fail
      refine Calls.mono hI.out ?_
      rintro e w5 ⟨rfl, F', q1, q2, q3⟩
      have hX5 := hide (hX4.out.call (l' := insF L (s i).1 x m (s i).2.1) hi (by rw [up_same]; exact q1) q2 q3)
      have hH5 := hide (hH4.out.call hi q2 q3)
      clear hX4 hH4 bB4 g1 g2 g3 q1 q2 q3 hI
      go_wp2_with fail
      go_ret
      refine ⟨rfl, _, _, _, _, ?_, hH5.out⟩
      rw [hone.out]
      have e2 := hX5.out
      rw [up_up, up_same] at e2
      exact e2
  · have bl := hide ((h5.out.setCell (p := ⟨W1.heap.size, 0, none⟩) (Nat.le_refl _) (.int .i64 L)).setCell (p := ⟨W1.heap.size, 1, none⟩) (Nat.le_refl _) (.slice A2 (BagM.put x m (s i).2.2).length c2))
    have hX3 := hide (hK.out _ bl.out)
    have hH3 := hide (hKH.out _ bl.out)
    have bN := hide (show Blk ((wb.setCell ⟨W1.heap.size, 0, none⟩ (.int .i64 L)).setCell ⟨W1.heap.size, 1, none⟩ (.slice A2 (BagM.put x m (s i).2.2).length c2)) W1.heap.size 53 #[.int .i64 L, .slice A2 (BagM.put x m (s i).2.2).length c2] from (by have := (hy.out.set 0 (.int .i64 L)).set 1 (.slice A2 (BagM.put x m (s i).2.2).length c2); simpa using this))
    have bB := hide (hKB.out _ bl.out)
    have hn3 := hide (hn2.out.turned ((Turn.setCell wb (fun j => j = W1.heap.size) ⟨W1.heap.size, 0, none⟩ (.int .i64 L) rfl).trans (Turn.setCell _ (fun j => j = W1.heap.size) ⟨W1.heap.size, 1, none⟩ (.slice A2 (BagM.put x m (s i).2.2).length c2) rfl) fun _ _ q => q) (fun j hj e => by subst e; exact (hv2.out _ hj).2.elim (fun q => by have := (hvl.out _ q).1; omega) (fun q => by have q2 : (W1.alloc (.cells #[.int .i64 0, .slice none 0 0] 53)).heap.size ≤ W1.heap.size := q; rw [World.size_alloc] at q2; omega)))
    have hv3 : Hid (∀ j, (Value.slice A2 (BagM.put x m (s i).2.2).length c2).ownBlock = some j → j < ((wb.setCell ⟨W1.heap.size, 0, none⟩ (.int .i64 L)).setCell ⟨W1.heap.size, 1, none⟩ (.slice A2 (BagM.put x m (s i).2.2).length c2)).heap.size ∧ ((v i).ownBlock = some j ∨ W1.heap.size ≤ j)) := fun j hj => by
      obtain ⟨q1, q2⟩ := hv2.out j hj
      rw [hv0.out]
      refine ⟨(by simpa using q1), ?_⟩
      rcases q2 with q2 | q2
      · exact .inl q2
      · right; first | exact q2 | exact Nat.le_of_succ_le (by simpa using q2) | (simp at q2; omega)
    have hne : ¬ W1.heap.size = gb := by omega
    clear hK hKH hKB hA h5 hv2
    obtain ⟨nb, hnb⟩ : ∃ nb, W1.heap.size = nb := ⟨_, rfl⟩
    generalize (wb.setCell ⟨W1.heap.size, 0, none⟩ (.int .i64 L)).setCell ⟨W1.heap.size, 1, none⟩ (.slice A2 (BagM.put x m (s i).2.2).length c2) = W3 at *
    rw [hnb] at bN hne ⊢
    clear hnb
    have hcc := hX3.out.cells hi
    rw [hv0.out] at hcc
    obtain ⟨-, r0, r1, -, r2, -, r3, r4, -, r5, r6⟩ := hcc
    have r7 : W3.cell? ⟨nb, 0, none⟩ = some (.int .i64 L) := bN.out.cell 0
    have r8 : W3.cell? ⟨nb, 1, none⟩ = some (.slice A2 (BagM.put x m (s i).2.2).length c2) := bN.out.cell 1
    have r9 := bN.out.lt
    have hX4 := hide (hX3.out.putV hi hn3.out (hok.out _ _ hv3.out))
    have hH4 := hide (hH3.out.putV (i := i) (turn_bag W3 gb i (.int .i64 L) (.slice A2 (BagM.put x m (s i).2.2).length c2)) (al_v hi hzW hv3.out))
    have bB4 := hide (bB.out.turned (turn_bag W3 gb i (.int .i64 L) (.slice A2 (BagM.put x m (s i).2.2).length c2)) (by omega))
    clear hn3 hX3 hH3 bN bB hv3 hok s0 s1 s2 s3 s4 t0 t1 t2 a0 a1 a2 a3 a4 a5 a6 a7
    go_wp2_with fail
    go_region
    all_goals
      clear r0 r1 r2 r3 r4 r5 r6 r7 r8 r9
      replace hX4 := hide (hX4.out.kept (Below.refl _ _).drew)
      replace hH4 := hide (hH4.out.below (Below.refl _ _).drew)
      replace bB4 := hide (bB4.out.kept (Below.refl _ _).drew)
      generalize ((W3.setCell ⟨gb, i * 2, none⟩ (.int .i64 L)).setCell ⟨gb, i * 2 + 1, none⟩ (.slice A2 (BagM.put x m (s i).2.2).length c2)).drew = W4 at *
      have g1 := bB4.out.lt
      have g2 : W4.cell? ⟨hb, 3, none⟩ = some (.int .i64 x) := bB4.out.cell 3
      have g3 : W4.cell? ⟨hb, 4, none⟩ = some (.int .i64 m) := bB4.out.cell 4
      have e1 := hX4.out.dig i hi
      rw [up_same] at e1
      have hI := hide (digest_insert (d i) (p i) (s i).1 (D i) L x m (s i).2.1 (Fs i) W4 e1 hxs.1 hxs.2.1 hxs.2.2.1 hxs.2.2.2 hms (by omega))
      clear e1
      go_wp2_with fail
      refine Calls.mono hI.out ?_
      rintro e w5 ⟨rfl, F', q1, q2, q3⟩
      have hX5 := hide (hX4.out.call (l' := insF L (s i).1 x m (s i).2.1) hi (by rw [up_same]; exact q1) q2 q3)
      have hH5 := hide (hH4.out.call hi q2 q3)
      clear hX4 hH4 bB4 g1 g2 g3 q1 q2 q3 hI
      go_wp2_with fail
      go_ret
      refine ⟨rfl, _, _, _, _, ?_, hH5.out⟩
      rw [hone.out]
      have e2 := hX5.out
      rw [up_up, up_same] at e2
      exact e2
end CW
end Go.Proofs.YteebghoijaaakaaGreat

/- Part 32 of the proof: texts joined by this repo's tools/merge2.py (ShtH BlnB ClnA). By the prover of this repo. -/
import Derived.Test.YteebghoijaaakaaGreatM28
import Derived.Test.YteebghoijaaakaaGreatM23
import Derived.Test.YteebghoijaaakaaGreatM21
import Derived.Test.YteebghoijaaakaaGreatM10
import Derived.Laws.CopyOwn
import Derived.Deep.RegionLaw
set_option linter.unusedVariables false
set_option linter.unusedSimpArgs false
/- The walk of sheet.reading's end: what is wrong of all. By the prover of this repo. -/
namespace Go.Proofs.YteebghoijaaakaaGreat
namespace SH
open Go.RowKit
open TwigM RollM StoM

set_option maxRecDepth 100000 in
set_option maxHeartbeats 2000000 in
theorem end_c (B g : Nat) (L K : Int) (u : Value) (l : List Nd) (w : World) (hb : Blk w g 155 #[.int .i64 L, .int .i64 K, .int .i64 0, .int .i64 0, u]) (hrow : w.ownsRow B 67 2 u l.length (ndv l))
    (hL1 : 1 ≤ L) (hL2 : L ≤ 48) (hK1 : 1 ≤ K) (hK2 : K ≤ 1048576) (hwf : NdWf l) (hro : rollB L l = true) (hroom : (l.length : Int) ≤ 8 * K) (hlight : lightB L (sumL l / K) l = true) (hlen : l.length ≤ 1000000) :
    Calls Tryz.prog 106 #[.pointer (some ⟨g, 0, none⟩)] w fun e w' => e = .returned (.int .i64 0) ∧ Below w.heap.size w w' := by
  obtain ⟨A, c, rfl⟩ := own_len hrow
  have hrd : ∀ W, Below w.heap.size w W → Rd W A l.length 2 (ndc l) := fun W hW => own_rdn (own_kept hrow hW) rfl
  have hR := hide (fun W hW => roll_right L A c l W (hrd W hW) hlen hwf)
  rw [hro] at hR
  have hP := hide (fun W hW => pool_load 2 L A c l W (hrd W hW) hlen hwf (by simp [kindB, hL1, hL2]) hro)
  have hLt := hide (fun q G W h => press_light q 2 L K l G W h hK1 hK2)
  rw [hlight] at hLt
  have hB := hide (fun W (hW : Below w.heap.size w W) => hb.kept hW)
  have c0 : w.cell? ⟨g, 0, none⟩ = some (.int .i64 L) := hb.cell 0
  have c3 : w.cell? ⟨g, 3, none⟩ = some (.int .i64 0) := hb.cell 3
  have c4 : w.cell? ⟨g, 4, none⟩ = some (.slice A l.length c) := hb.cell 4
  have hg := hb.lt
  clear hrow hrd hro hlight hwf hb
  generalize l.length = n at *
  have hR1 := hide (fun (e : Later w.heap.size w) => hR.out e.val e.property)
  have h0 : decide (0 < (0 : Int)) = false := rfl
  go_enter Tryz.func106, Tryz.ntmps106
  go_wp2_with fail
  refine wp_region_later (by kernel_rfl) (by kernel_rfl) ?_
  repeat (go_big_quiet_step (first
    | (go_at_call 100; (with_reducible exact calls_later (hR1.out _)))
    | exact rfl))
  refine wpQuiet_nil ?_
  rintro _ ⟨e1, rfl⟩
  have hb1 := hide e1.property
  generalize e1.val = w1 at *
  clear e1 c0 c3 c4 hg hR1
  have b1 := hB.out w1 hb1.out
  have y0 : w1.cell? ⟨g, 0, none⟩ = some (.int .i64 L) := b1.cell 0
  have y1 : w1.cell? ⟨g, 1, none⟩ = some (.int .i64 K) := b1.cell 1
  have y4 : w1.cell? ⟨g, 4, none⟩ = some (.slice A n c) := b1.cell 4
  have y5 := b1.lt
  clear b1
  go_wp2_with fail
  go_region
  have hb1d := hide hb1.out.drew
  go_wp2_with fail
  go_region_with (go_at_call 99; (with_reducible refine (hP.out _ hb1d.out.drew).mono ?_); rintro e w2 ⟨q, G, rfl, hp2, -, -, hb2⟩; have hLt2 := hide (hLt.out q G w2 hp2); have hb3 := hide (hb1d.out.drew.trans (hb2.mono hb1d.out.size)); have b2 := hB.out w2 hb3.out; have x1 : w2.cell? ⟨g, 1, none⟩ = some (.int .i64 K) := b2.cell 1; have x2 := b2.lt; clear b2 hp2 hb2)
  all_goals
    go_wp2_with fail
    refine Calls.mono hLt2.out ?_
    rintro e w3 ⟨rfl, hb4⟩
    go_wp2_with fail
    go_ret
    exact ⟨rfl, hb3.out.trans (hb4.mono hb3.out.size)⟩
end SH
end Go.Proofs.YteebghoijaaakaaGreat
/- The walks of layer 14, on: a digest of a lesser k; why two can't be merged; two merged. By the prover of this repo. -/
namespace Go.Proofs.YteebghoijaaakaaGreat
open Go.RowKit
open TwigM RollM StoM

set_option maxRecDepth 100000 in
set_option maxHeartbeats 1000000 in
theorem lower_no (d p : Nat) (K kd L k : Int) (l : List Nd) (F : Nat → Prop) (w : World) (h : DigAt w d p K kd L l F) (hk : k < 1 ∨ K < k) :
    Calls Tryz.prog 25 #[.pointer (some ⟨d, 0, none⟩), .int .i64 k] w fun e w' => e = .returned (.tuple #[.pointer none, .int .i64 2]) ∧ Below w.heap.size w w' := by
  have hCf := hide (digest_conf d p K kd L l F w h)
  clear h
  unfold conf at hCf
  by_cases h1 : k < 1
  · clear hk
    go_enter Tryz.func25, Tryz.ntmps25
    go_wp2_with fail
    refine Calls.mono hCf.out ?_
    rintro e w1 ⟨rfl, hb1⟩
    have hb1 := hide (balloc hb1 (.cells #[.int .i64 L, .int .i64 K, .int .i64 kd] 42))
    go_wp2_with fail
    go_ret2
    exact ⟨rfl, hb1.out⟩
  · have h2 : K < k := by omega
    clear hk
    go_enter Tryz.func25, Tryz.ntmps25
    go_wp2_with fail
    refine Calls.mono hCf.out ?_
    rintro e w1 ⟨rfl, hb1⟩
    have hb1 := hide (balloc hb1 (.cells #[.int .i64 L, .int .i64 K, .int .i64 kd] 42))
    go_wp2_with fail
    go_ret2
    exact ⟨rfl, hb1.out⟩
set_option maxRecDepth 100000 in
set_option maxHeartbeats 1000000 in
theorem lower_yes (d p : Nat) (K kd L k : Int) (l : List Nd) (F : Nat → Prop) (w : World) (h : DigAt w d p K kd L l F) (hk1 : 1 ≤ k) (hk2 : k ≤ K) (hms : meas l (startF l) ≤ 10000000)
    (hwf : NdWf (pressF L k l).1) (hlen : (pressF L k l).1.length ≤ 1000000) (hld : loadB L k kd (pressF L k l).1 = true) :
    Calls Tryz.prog 25 #[.pointer (some ⟨d, 0, none⟩), .int .i64 k] w fun e w' => ∃ d' p' F', e = .returned (.tuple #[.pointer (some ⟨d', 0, none⟩), .int .i64 0]) ∧ DigAt w' d' p' k kd L (pressF L k l).1 F' ∧ w.heap.size ≤ d' ∧ w.heap.size ≤ p' ∧ (∀ j, F' j → w.heap.size ≤ j) ∧ Below w.heap.size w w' := by
  have hCf := hide (digest_conf d p K kd L l F w h)
  have hkk := h.k2
  have hLw := hide (fun W (hW : Below w.heap.size w W) => lowered_c d p K kd L k l F W (h.kept hW) hk1 (by omega) hms)
  have hLd := hide (fun (A : Option Addr) (c : Nat) (W : World) (hr : Rd W A (pressF L k l).1.length 2 (ndc (pressF L k l).1)) => digest_load L k kd A c (pressF L k l).1 W hr hlen hwf hld)
  clear h hms hwf hlen hld
  generalize (pressF L k l).1 = r at *
  obtain ⟨n, hn⟩ : ∃ n, Hid (r.length = n) := ⟨_, rfl⟩
  rw [hn.out] at hLw hLd
  unfold conf at hCf hLd
  go_enter Tryz.func25, Tryz.ntmps25
  go_wp2_with fail
  refine Calls.mono hCf.out ?_
  rintro e w1 ⟨rfl, hb1⟩
  have hz1 := hb1.size
  have hb1h := hide (balloc hb1 (.cells #[.int .i64 L, .int .i64 K, .int .i64 kd] 42))
  have hC1 := hide (Blk.made w1 42 #[.int .i64 L, .int .i64 K, .int .i64 kd])
  clear hb1
  go_wp2_with fail
  refine Calls.mono (hLw.out _ hb1h.out) ?_
  rintro e w2 ⟨v, rfl, hv, hb2⟩
  obtain ⟨A, c, rfl, r1, r2, r3⟩ := own_form hv
  have hC2 := hC1.out.kept hb2
  have y0 := hC2.cell 0
  have y1 := hC2.cell 1
  have y2 := hC2.cell 2
  have y3 := hC2.free 1
  have y4 := hC2.lt
  have hz2 := hb2.size
  have hz12 := hb1h.out.size
  have hb2h := hide (hb1h.out.trans (hb2.mono hz12))
  have hS := hide (Turn.setCell w2 (fun j => j = w1.heap.size) ⟨w1.heap.size, 1, none⟩ (.int .i64 k) rfl)
  have hne : ∀ j, (Value.slice A n c).ownBlock = some j → ¬ j = w1.heap.size := fun j hj e => by
    have := (hv.lt j hj).1
    simp at this
    omega
  have hvS := hide (own_rdn (own_turnedB hv hS.out hne) hn.out)
  clear hv hC2 hb2
  go_wp2_with fail
  refine Calls.mono (hLd.out _ _ _ hvS.out) ?_
  rintro e w3 ⟨d', p', F', rfl, hd3, q1, q2, q3, hb3⟩
  have hd3 := hide hd3
  have hb3 := hide hb3
  have q3 := hide q3
  go_wp2_with fail
  go_ret2
  have hzw : w.heap.size ≤ w2.heap.size := by simp at hz2; omega
  refine ⟨d', p', F', rfl, hd3.out, by simp at q1; omega, by simp at q2; omega, fun j hj => by have := q3.out j hj; simp at this; omega, ?_⟩
  have hbs := hb2h.out.setCell (p := ⟨w1.heap.size, 1, none⟩) hz1 (.int .i64 k)
  exact hbs.trans (hb3.out.mono (by simpa using hzw))
set_option maxRecDepth 100000 in
theorem wrong_c2 (a b p q : Nat) (K K' kd kd' L : Int) (l m : List Nd) (F F' : Nat → Prop) (w : World) (h : DigAt w a p K kd L l F) (h' : DigAt w b q K' kd' L m F') :
    Calls Tryz.prog 54 #[.pointer (some ⟨a, 0, none⟩), .pointer (some ⟨b, 0, none⟩)] w fun e w' => e = .returned (.int .i64 (if 72057594037927935 < sumL l + sumL m then 5 else 0)) ∧ Below w.heap.size w w' := by
  have hC1 := hide (fun W (hW : Below w.heap.size w W) => digest_conf a p K kd L l F W (h.kept hW))
  have hC2 := hide (fun W (hW : Below w.heap.size w W) => digest_conf b q K' kd' L m F' W (h'.kept hW))
  have hN1 := hide (fun W (hW : Below w.heap.size w W) => digest_n a p K kd L l F W (h.kept hW))
  have hN2 := hide (fun W (hW : Below w.heap.size w W) => digest_n b q K' kd' L m F' W (h'.kept hW))
  have hs1 := h.pool.sum
  have hs2 := h'.pool.sum
  have hn1 := sumL_nonneg l h.pool.canon.cntL
  have hn2 := sumL_nonneg m h'.pool.canon.cntL
  clear h h'
  generalize sumL l = s at *
  generalize sumL m = t at *
  unfold conf at hC1 hC2
  have hf1 : ∀ W : World, (Instr.field 42 (.agg #[.int .i64 L, .int .i64 K, .int .i64 kd]) 0).run Tryz.prog W = .ok (.int .i64 L) W := fun _ => by kernel_rfl
  have hf2 : ∀ W : World, (Instr.field 42 (.agg #[.int .i64 L, .int .i64 K', .int .i64 kd']) 0).run Tryz.prog W = .ok (.int .i64 L) W := fun _ => by kernel_rfl
  by_cases hf : 72057594037927935 < s + t
  · rw [if_pos hf]
    have hf3 : 72057594037927935 - t < s := by omega
    clear hf
    go_enter Tryz.func54, Tryz.ntmps54
    go_wp2_with fail
    refine Calls.mono (hC1.out _ (Below.refl _ _)) ?_
    rintro e w1 ⟨rfl, hb1⟩
    have hb1 := hide hb1
    go_wp2_with fail
    refine Calls.mono (hC2.out _ hb1.out) ?_
    rintro e w2 ⟨rfl, hb2⟩
    have hb2 := hide (hb1.out.trans (hb2.mono hb1.out.size))
    go_wp2_with fail
    refine Calls.mono (hN1.out _ hb2.out) ?_
    rintro e w3 ⟨rfl, hb3⟩
    have hb3 := hide (hb2.out.trans (hb3.mono hb2.out.size))
    go_wp2_with fail
    refine Calls.mono (hN2.out _ hb3.out) ?_
    rintro e w4 ⟨rfl, hb4⟩
    have hb4 := hide (hb3.out.trans (hb4.mono hb3.out.size))
    go_wp2_with fail
    go_ret
    exact ⟨rfl, hb4.out⟩
  · rw [if_neg hf]
    have hf3 : ¬ 72057594037927935 - t < s := by omega
    clear hf
    go_enter Tryz.func54, Tryz.ntmps54
    go_wp2_with fail
    refine Calls.mono (hC1.out _ (Below.refl _ _)) ?_
    rintro e w1 ⟨rfl, hb1⟩
    have hb1 := hide hb1
    go_wp2_with fail
    refine Calls.mono (hC2.out _ hb1.out) ?_
    rintro e w2 ⟨rfl, hb2⟩
    have hb2 := hide (hb1.out.trans (hb2.mono hb1.out.size))
    go_wp2_with fail
    refine Calls.mono (hN1.out _ hb2.out) ?_
    rintro e w3 ⟨rfl, hb3⟩
    have hb3 := hide (hb2.out.trans (hb3.mono hb2.out.size))
    go_wp2_with fail
    refine Calls.mono (hN2.out _ hb3.out) ?_
    rintro e w4 ⟨rfl, hb4⟩
    have hb4 := hide (hb3.out.trans (hb4.mono hb3.out.size))
    go_wp2_with fail
    go_ret
    exact ⟨rfl, hb4.out⟩
end Go.Proofs.YteebghoijaaakaaGreat
/- The walks of Clone: of both stores, of a pool, of a digest. By the prover of this repo. -/
namespace Go.Proofs.YteebghoijaaakaaGreat
open Go.RowKit
open TwigM RollM StoM

set_option maxRecDepth 100000 in
theorem dense_clone (g b : Nat) (L : Int) (l : List Nd) (w : World) (h : DenAt w g b L l) :
    Calls Tryz.prog 119 #[.pointer (some ⟨g, 0, none⟩)] w fun e w' => ∃ g' b', e = .returned (.pointer (some ⟨g', 0, none⟩)) ∧ DenAt w' g' b' L l ∧ w.heap.size ≤ g' ∧ w.heap.size ≤ b' ∧ Below w.heap.size w w' := by
  obtain ⟨c0, c1, c2, c3, -, -⟩ := h.cells
  have hl1 := h.l1
  have hl2 := h.l2
  have hp1 := pw_pos L
  have hp2 : pw L ≤ pw 16 := pw_mono hl2
  rw [show pw 16 = 65536 from rfl] at hp2
  have hdc := denCs_size L l
  have harr := hide h.arr
  obtain ⟨N, hN⟩ : ∃ N, (2 * pw L).toNat = N := ⟨_, rfl⟩
  rw [hN] at c3 hdc
  have hmk := fun V => make_ints (N : Int) (by omega) (by omega) V
  rw [Int.toNat_natCast] at hmk
  have hg := h.lt.1
  have hb := h.lt.2
  generalize hD : denCs L l = D at *
  clear h
  go_enter Tryz.func119, Tryz.ntmps119
  go_wp2_with fail
  obtain ⟨Z, hZ⟩ : ∃ Z, Hid (madeCells #[Value.int .i64 0] N = Z) := ⟨_, rfl⟩
  have hZs : Z.size = N := by rw [← hZ.out, size_madeCells]
  rw [hZ.out]
  have hB0 := balloc (balloc0 w (.cells #[.int .i64 L, .int .i64 (l.length : Int), .int .i64 (sumL l), .slice (some ⟨w.heap.size + 1, 0, none⟩) N N] 178)) (.cells Z 3)
  have hblk : Blk ((w.alloc (.cells #[.int .i64 L, .int .i64 (l.length : Int), .int .i64 (sumL l), .slice (some ⟨w.heap.size + 1, 0, none⟩) N N] 178)).alloc (.cells Z 3)) w.heap.size 178 #[.int .i64 L, .int .i64 (l.length : Int), .int .i64 (sumL l), .slice (some ⟨w.heap.size + 1, 0, none⟩) N N] := (Blk.made w _ _).alloc _
  have harr0 : Blk ((w.alloc (.cells #[.int .i64 L, .int .i64 (l.length : Int), .int .i64 (sumL l), .slice (some ⟨w.heap.size + 1, 0, none⟩) N N] 178)).alloc (.cells Z 3)) (w.heap.size + 1) 3 Z := Blk.made_at _ _ _ (by simp)
  generalize (w.alloc (.cells #[.int .i64 L, .int .i64 (l.length : Int), .int .i64 (sumL l), .slice (some ⟨w.heap.size + 1, 0, none⟩) N N] 178)).alloc (.cells Z 3) = W0 at *
  have e3 : W0.cell? ⟨g, 3, none⟩ = some (.slice (some ⟨b, 0, none⟩) N N) := (hB0.cell (p := ⟨g, 3, none⟩) hg).trans c3
  have e4 : W0.cell? ⟨w.heap.size, 3, none⟩ = some (.slice (some ⟨w.heap.size + 1, 0, none⟩) N N) := hblk.cell 3
  have hdat := harr.out.kept hB0
  have hl0 := hblk.lt
  have hl1' := harr0.lt
  have hg0 : g < W0.heap.size := by have := hB0.size; omega
  obtain ⟨H1, hH1⟩ : ∃ H1, w.heap.size + 1 = H1 := ⟨_, rfl⟩
  rw [hH1] at e4 harr0 hl1' hblk
  have hdatH := hide hdat
  have harrH := hide harr0
  have hblkH := hide hblk
  have hDz : D.toList.length = N := by simpa using hdc
  have hZz : Z.toList.length = N := by simpa using hZs
  have hsrc : ∀ (V : World), V = W0.drew → ∀ j v, D.toList[j]? = some v → V.cell? ((⟨b, 0, none⟩ : Addr).add j) = some v := fun V hV j v hj => by
    have hadd : (⟨b, 0, none⟩ : Addr).add j = ⟨b, j, none⟩ := by unfold Addr.add; split <;> simp_all
    rw [hadd, hV]
    have := hdatH.out.cell j
    rw [show D[j]? = D.toList[j]? by simp, hj] at this
    exact this
  have hone : ∀ v ∈ D.toList, v.oneCell' = true := by
    intro v hv
    rw [← hD] at hv
    unfold denCs at hv
    simp only [List.toList_toArray, List.mem_map] at hv
    obtain ⟨i, -, rfl⟩ := hv
    rfl
  have hD := hide hD
  clear hdat harr0 hblk hmk c0 c1 c2 c3 hZ harr hdc
  go_region_law (refine step_copy_splice rfl (.tmp 17) (.tmp 21) 22 22 rfl 3 Tryz.underlying22 (by kernel_rfl) (some ⟨H1, 0, none⟩) (some ⟨b, 0, none⟩) N N N N rfl rfl H1 0 Z.toList 3 harrH.out D.toList (by rw [hDz]; simp) (fun _ => ⟨rfl, _, rfl, hsrc _ rfl⟩) (by omega) hone H1 W0 ⟨rfl, rfl, rfl, Nat.le_refl _, fun _ _ => rfl⟩ (Nat.le_refl _) ?_; intro w4 hg4 hb4)
  all_goals go_wp2_with fail
  all_goals go_ret
  all_goals
    have e : splice Z.toList 0 D.toList = D.toList := by
      unfold splice
      rw [List.take_zero, List.nil_append, List.drop_of_length_le (by omega), List.append_nil]
    have hg5 := hg4.out
    rw [e] at hg5
    have hH := hb4.block w.heap.size (by omega)
    have hz4 := hB0.size
    refine ⟨w.heap.size, H1, rfl, ⟨?_, ?_, by omega, hl1, hl2⟩, Nat.le_refl _, by omega, hB0.trans (hb4.mono (by omega))⟩
    · rw [hN]
      exact hH.trans hblkH.out
    · rw [hD.out]
      exact hg5
end Go.Proofs.YteebghoijaaakaaGreat

/- Part 34 of the proof: texts joined by this repo's tools/merge2.py (BlnD). By the prover of this repo. -/
import Derived.Test.YteebghoijaaakaaGreatM32
import Derived.Test.YteebghoijaaakaaGreatM23
set_option linter.unusedVariables false
set_option linter.unusedSimpArgs false
/- The walks of press.Bound, recast.Turn. By the prover of this repo. -/
namespace Go.Proofs.YteebghoijaaakaaGreat
open Go.RowKit
open TwigM RollM StoM

theorem bound_c (K : Int) (w : World) (h1 : 1 ≤ K) (h2 : K ≤ 1048576) : Calls Tryz.prog 19 #[.int .i64 K] w fun e w' => e = .returned (.int .i64 (4 * K - 1)) ∧ w = w' := by
  have hM := hide (may_c K w)
  rw [decide_eq_true ⟨h1, h2⟩] at hM
  go_enter Tryz.func19, Tryz.ntmps19
  go_wp2_with fail
  refine Calls.mono hM.out ?_
  rintro e w1 ⟨rfl, rfl⟩
  go_wp2_with fail
  go_ret
  exact ⟨rfl, rfl⟩
set_option maxRecDepth 100000 in
set_option maxHeartbeats 1000000 in
theorem turn_c (d p : Nat) (K kd kd' L : Int) (l : List Nd) (F : Nat → Prop) (w : World) (h : DigAt w d p K kd L l F) (hkd : kindB kd' L = true) (hld : loadB L K kd' l = true) :
    Calls Tryz.prog 62 #[.pointer (some ⟨d, 0, none⟩), .int .i64 kd'] w fun e w' => ∃ d' p' G, e = .returned (.tuple #[.pointer (some ⟨d', 0, none⟩), .int .i64 0]) ∧ DigAt w' d' p' K kd' L l G ∧ w.heap.size ≤ d' ∧ w.heap.size ≤ p' ∧ (∀ j, G j → w.heap.size ≤ j) ∧ Below w.heap.size w w' := by
  obtain ⟨hL1, hL2⟩ := h.pool.uni
  have hwf := TopM.wf_of h.pool.canon h.pool.inU hL2 h.pool.sum
  have hll := h.pool.len
  have hCf := hide (digest_conf d p K kd L l F w h)
  have hN := hide (fun W (hW : Below w.heap.size w W) => digest_nodes d p K kd L l F W (h.kept hW))
  have hLd := hide (fun (A : Option Addr) (c : Nat) (W : World) (hr : Rd W A l.length 2 (ndc l)) => digest_load L K kd' A c l W hr hll hwf hld)
  have hM := hide (fun W => rec_may L K kd' W)
  rw [hkd] at hM
  obtain ⟨n, hn⟩ : ∃ n, Hid (l.length = n) := ⟨_, rfl⟩
  rw [hn.out] at hN hLd
  clear h hwf hll hkd hld
  unfold conf at hCf hLd hM
  go_enter Tryz.func62, Tryz.ntmps62
  go_wp2_with fail
  refine Calls.mono hCf.out ?_
  rintro e w1 ⟨rfl, hb1⟩
  have hz1 := hb1.size
  have hb1h := hide (balloc hb1 (.cells #[.int .i64 L, .int .i64 K, .int .i64 kd'] 42))
  have hC1 := hide (Blk.made w1 42 #[.int .i64 L, .int .i64 K, .int .i64 kd'])
  clear hb1
  go_wp2_with fail
  refine Calls.mono (hM.out _) ?_
  rintro e w2 ⟨rfl, hb2⟩
  have hC2 := hide (hC1.out.kept hb2)
  have x0 := hC2.out.cell 0
  have x1 := hC2.out.cell 1
  have x2 := hC2.out.cell 2
  have x3 := hC2.out.lt
  have hb2h := hide (hb1h.out.trans (hb2.mono hb1h.out.size))
  clear hb2
  go_wp2_with fail
  go_region_with (first
    | (go_at_call 28; (with_reducible refine (hN.out _ hb2h.out.drew).mono ?_); rintro e w3 ⟨v, rfl, hv, hb3⟩; obtain ⟨A, c, rfl, r1, r2, r3⟩ := own_form hv; have hb3' := (Below.refl _ _).drew.trans hb3; have y0 := (hC2.out.kept hb3').cell 0; have y1 := (hC2.out.kept hb3').cell 1; have y2 := (hC2.out.kept hb3').cell 2; have y3 := (hC2.out.kept hb3').lt; have hv := hide hv; have hb3 := hide (hb2h.out.drew.trans (hb3.mono hb2h.out.size)); clear hb3')
    | (go_at_call 57; (with_reducible refine (hLd.out _ _ _ (own_rdn hv.out hn.out)).mono ?_); rintro e w4 ⟨d', p', G, rfl, hd4, q1, q2, q3, hb4⟩; have hd4 := hide hd4; have q3 := hide q3; have hb4 := hide hb4))
  all_goals
    go_wp2_with fail
    go_ret2
    have hz := hb3.out.size
    exact ⟨d', p', G, rfl, hd4.out, by omega, by omega, fun i hi => by have := q3.out i hi; omega, hb3.out.trans (hb4.out.mono hz)⟩
end Go.Proofs.YteebghoijaaakaaGreat

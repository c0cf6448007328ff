/- Part 37 of the proof: texts joined by this repo's tools/merge2.py (BlnC). By the prover of this repo. -/
import Derived.Test.YteebghoijaaakaaGreatM32
import Derived.Lib.MinMax
set_option linter.unusedVariables false
set_option linter.unusedSimpArgs false
/- The walks of layer 14, on: two digests merged. By the prover of this repo. -/
namespace Go.Proofs.YteebghoijaaakaaGreat
open Go.RowKit
open TwigM RollM StoM

theorem merge_no (a b p q : Nat) (K K' kd kd' L : Int) (l m : List Nd) (F F' : Nat → Prop) (w : World) (h : DigAt w a p K kd L l F) (h' : DigAt w b q K' kd' L m F') (hf : 72057594037927935 < sumL l + sumL m) :
    Calls Tryz.prog 20 #[.pointer (some ⟨a, 0, none⟩), .pointer (some ⟨b, 0, none⟩)] w fun e w' => e = .returned (.tuple #[.pointer none, .int .i64 5]) ∧ Below w.heap.size w w' := by
  have hW := hide (wrong_c2 a b p q K K' kd kd' L l m F F' w h h')
  rw [if_pos hf] at hW
  clear h h' hf
  go_enter Tryz.func20, Tryz.ntmps20
  go_wp2_with fail
  refine Calls.mono hW.out ?_
  rintro e w1 ⟨rfl, hb1⟩
  have hb1 := hide hb1
  go_wp2_with fail
  go_ret2
  exact ⟨rfl, hb1.out⟩
set_option maxRecDepth 100000 in
set_option maxHeartbeats 2000000 in
theorem merge_yes (a b p q : Nat) (K K' kd kd' L k : Int) (l m : List Nd) (F F' : Nat → Prop) (w : World) (h : DigAt w a p K kd L l F) (h' : DigAt w b q K' kd' L m F') (hf : ¬ 72057594037927935 < sumL l + sumL m) (hk : min K K' = k)
    (hms : meas l (startF l) ≤ 10000000) (hms' : meas m (startF m) ≤ 10000000) (hjl : (pressF L k l).1.length + (pressF L k m).1.length ≤ 1000000) (hjw : NdWf ((pressF L k l).1 ++ (pressF L k m).1))
    (hwf : NdWf (joinF (pressF L k l).1 (pressF L k m).1).1) (hlen : (joinF (pressF L k l).1 (pressF L k m).1).1.length ≤ 1000000) (hld : loadB L k kd (joinF (pressF L k l).1 (pressF L k m).1).1 = true) :
    Calls Tryz.prog 20 #[.pointer (some ⟨a, 0, none⟩), .pointer (some ⟨b, 0, none⟩)] w fun e w' => ∃ d' p' G, e = .returned (.tuple #[.pointer (some ⟨d', 0, none⟩), .int .i64 0]) ∧ DigAt w' d' p' k kd L (joinF (pressF L k l).1 (pressF L k m).1).1 G ∧ w.heap.size ≤ d' ∧ w.heap.size ≤ p' ∧ (∀ j, G j → w.heap.size ≤ j) ∧ Below w.heap.size w w' := by
  have k1 := h.k1
  have k2 := h.k2
  have k3 := h'.k1
  have k4 := h'.k2
  have hW := hide (wrong_c2 a b p q K K' kd kd' L l m F F' w h h')
  rw [if_neg hf] at hW
  have hC1 := hide (fun W (hW : Below w.heap.size w W) => digest_conf a p K kd L l F W (h.kept hW))
  have hC2 := hide (fun W (hW : Below w.heap.size w W) => digest_conf b q K' kd' L m F' W (h'.kept hW))
  have hA := hide (fun W (hW : Below w.heap.size w W) => lowered_c a p K kd L k l F W (h.kept hW) (by omega) (by omega) hms)
  have hB := hide (fun W (hW : Below w.heap.size w W) => lowered_c b q K' kd' L k m F' W (h'.kept hW) (by omega) (by omega) hms')
  have hLd := hide (fun (A : Option Addr) (c : Nat) (W : World) (hr : Rd W A (joinF (pressF L k l).1 (pressF L k m).1).1.length 2 (ndc (joinF (pressF L k l).1 (pressF L k m).1).1)) => digest_load L k kd A c _ W hr hlen hwf hld)
  have hJn := hide (fun (A B : Option Addr) (ca cb : Nat) (W : World) (hr : Rd W A (pressF L k l).1.length 2 (ndc (pressF L k l).1)) (hs : Rd W B (pressF L k m).1.length 2 (ndc (pressF L k m).1)) (hA : A = none → (pressF L k l).1.length = 0) (hB : B = none → (pressF L k m).1.length = 0) => roll_join A B ca cb _ _ W hr hs hA hB hjl hjw)
  have hf2 : ∀ W : World, (Instr.field 42 (.agg #[.int .i64 L, .int .i64 K', .int .i64 kd']) 1).run Tryz.prog W = .ok (.int .i64 K') W := fun _ => by kernel_rfl
  clear h h' hf hms hms' hjl hjw hwf hlen hld
  generalize joinF (pressF L k l).1 (pressF L k m).1 = J at *
  obtain ⟨j, jb⟩ := J
  simp only at hLd hJn ⊢
  generalize (pressF L k l).1 = r at *
  generalize (pressF L k m).1 = s at *
  obtain ⟨n1, hn1⟩ : ∃ n, Hid (r.length = n) := ⟨_, rfl⟩
  obtain ⟨n2, hn2⟩ : ∃ n, Hid (s.length = n) := ⟨_, rfl⟩
  rw [hn1.out] at hA hJn
  rw [hn2.out] at hB hJn
  unfold conf at hC1 hC2 hLd
  go_enter Tryz.func20, Tryz.ntmps20
  go_wp2_with fail
  refine Calls.mono hW.out ?_
  rintro e w1 ⟨rfl, hb1⟩
  have hb1 := hide hb1
  go_wp2_with fail
  refine Calls.mono (hC1.out _ hb1.out) ?_
  rintro e w2 ⟨rfl, hb2⟩
  have hz2 : w.heap.size ≤ w2.heap.size := Nat.le_trans hb1.out.size hb2.size
  have hb2h := hide (balloc (hb1.out.trans (hb2.mono hb1.out.size)) (.cells #[.int .i64 L, .int .i64 K, .int .i64 kd] 42))
  have hB2 := hide (Blk.made w2 42 #[.int .i64 L, .int .i64 K, .int .i64 kd])
  clear hb2
  go_wp2_with fail
  go_region_with (first
    | (go_at_call 10; (with_reducible refine (hC2.out _ hb2h.out.drew).mono ?_); rintro e w3 ⟨rfl, hb3⟩; have hb3' := (Below.refl _ _).drew.trans hb3; have y1 := (hB2.out.kept hb3').cell 1; have y3 := (hB2.out.kept hb3').free 1; have y4 := (hB2.out.kept hb3').lt; have hb3 := hide hb3; clear hb3'))
  all_goals
    have hbS := hide ((hb2h.out.drew.trans (hb3.out.mono hb2h.out.size)).setCell (p := ⟨w2.heap.size, 1, none⟩) hz2 (.int .i64 k))
    have hCS : Hid (Blk (w3.setCell ⟨w2.heap.size, 1, none⟩ (.int .i64 k)) w2.heap.size 42 #[.int .i64 L, .int .i64 k, .int .i64 kd]) := by
      have := (hB2.out.kept ((Below.refl _ _).drew.trans hb3.out)).set 1 (.int .i64 k)
      show Blk _ _ _ _
      simpa using this
    clear y1 y3 y4 hB2 hb2h hb3
    generalize w3.setCell ⟨w2.heap.size, 1, none⟩ (.int .i64 k) = W4 at *
    have c0 := hCS.out.cell 1
    have c1 := hCS.out.lt
    go_wp2_with fail
    go_region_with (first
      | (go_at_call 56; (with_reducible refine (hA.out _ (by first | exact hbS.out.drew | exact hbB.out)).mono ?_); rintro e wa ⟨va, rfl, hva, hba⟩; obtain ⟨Aa, ca, rfl, ra1, ra2, ra3⟩ := own_form hva; have hbA := hide ((by first | exact hbS.out.drew.trans (hba.mono hbS.out.size) | exact hbB.out.trans (hba.mono hbB.out.size) : Below w.heap.size w wa)); have hwA := hide ((by first | exact (Below.refl _ _).drew.trans hba | exact hwB.out.trans (hba.mono hwB.out.size) : Below W4.heap.size W4 wa)); have ya := (hCS.out.kept hwA.out).cell 1; have yal := (hCS.out.kept hwA.out).lt; have hba := hide hba; have hva := hide hva)
      | (go_at_call 56; (with_reducible refine (hB.out _ (by first | exact hbS.out.drew | exact hbA.out)).mono ?_); rintro e wb ⟨vb, rfl, hvb, hbb⟩; obtain ⟨Ab, cb, rfl, rb1, rb2, rb3⟩ := own_form hvb; have hbB := hide ((by first | exact hbS.out.drew.trans (hbb.mono hbS.out.size) | exact hbA.out.trans (hbb.mono hbA.out.size) : Below w.heap.size w wb)); have hwB := hide ((by first | exact (Below.refl _ _).drew.trans hbb | exact hwA.out.trans (hbb.mono hwA.out.size) : Below W4.heap.size W4 wb)); have yb := (hCS.out.kept hwB.out).cell 1; have ybl := (hCS.out.kept hwB.out).lt; have hbb := hide hbb; have hvb := hide hvb)
      | (go_at_call 55; (with_reducible refine (hJn.out _ _ _ _ _ (by first | exact own_rdn hva.out hn1.out | exact own_rdn (own_kept hva.out hbb.out) hn1.out) (by first | exact own_rdn hvb.out hn2.out | exact own_rdn (own_kept hvb.out hba.out) hn2.out) ra1 rb1).mono ?_); rintro e wj ⟨vj, rfl, hvj, hbj⟩; obtain ⟨Aj, cj, rfl, rj1, rj2, rj3, hrj⟩ := hvj; have hrj := hide hrj; have hbw := hide ((by first | exact hbB.out.trans (hbj.mono hbB.out.size) | exact hbA.out.trans (hbj.mono hbA.out.size) : Below w.heap.size w wj)); have hww := hide ((by first | exact hwB.out.trans (hbj.mono hwB.out.size) | exact hwA.out.trans (hbj.mono hwA.out.size) : Below W4.heap.size W4 wj)); clear hbj))
    all_goals
      have hCj := hCS.out.kept hww.out
      have z0 := hCj.cell 0
      have z1 := hCj.cell 1
      have z2 := hCj.cell 2
      have z3 := hCj.lt
      clear c0 c1 hCj
      go_wp2_with fail
      refine Calls.mono (hLd.out _ _ _ hrj.out) ?_
      rintro e w9 ⟨d', p', G, rfl, hd9, q1, q2, q3, hb9⟩
      have hd9 := hide hd9
      have hb9 := hide hb9
      have q3 := hide q3
      go_wp2_with fail
      go_ret2
      have hzj := hbw.out.size
      exact ⟨d', p', G, rfl, hd9.out, by omega, by omega, fun i hi => by have := q3.out i hi; omega, hbw.out.trans (hb9.out.mono hzj)⟩
end Go.Proofs.YteebghoijaaakaaGreat

/- Layer 10: the walk of the law BagRanks. By the prover of this repo. -/
import Derived.Test.YtkjihbaiofocgaaBagD
namespace Go.Proofs.Ytkjihbaiofocgaa
open Go.RowKit
open TwigM BagM

theorem getElem_rd {w : World} {A : Option Addr} {l : List Rg} (h : Rd w A l.length 2 (ndc l)) {k : Nat} (hk : k < l.length) :
    ∃ b off, A = some ⟨b, off, none⟩ ∧ b < w.heap.size ∧ w.cell? ⟨b, off + k * 2, none⟩ = some (.int .i64 l[k].1) := by
  obtain ⟨b, off, e, hb, c0, _⟩ := rd_at h hk
  exact ⟨b, off, e, hb, c0⟩

set_option maxRecDepth 100000 in
set_option maxHeartbeats 4000000 in
theorem bagRanks_walk (L : Int) (A : Option Addr) (c : Nat) (r : List Rg) (x y z : Int) (w : World) (_hL : -9223372036854775808 ≤ L ∧ L ≤ 9223372036854775807) (hr : Rd w A r.length 2 (ndc r)) (hA : A = none → r.length = 0) (hc : r.length ≤ c) (hm : c ≤ maxLen) (hwf : RgWf r)
    (_hx : -9223372036854775808 ≤ x ∧ x ≤ 9223372036854775807) (_hy : -9223372036854775808 ≤ y ∧ y ≤ 9223372036854775807) (hz : -9223372036854775808 ≤ z ∧ z ≤ 9223372036854775807) :
    Calls Try.prog 4 #[.int .i64 L, .slice A r.length c, .agg #[.int .i64 x, .int .i64 y, .int .i64 z]] w fun e w' => e = .returned (.bool true) ∧ Below w.heap.size w w' := by
  have hnr : Nds w (.slice A r.length c) r := ⟨A, c, rfl, hA, hc, hm, hr⟩
  by_cases hg : 100 < r.length ∨ L < 1 ∨ 48 < L
  · clear hnr hr hA hc
    generalize r.length = n at *
    by_cases h1 : 100 < n
    · have h2 : (100 : Int) < (n : Int) := by omega
      clear hg
      go_enter Try.func4, Try.ntmps4
      go_wp2_with fail
      refine (alive10 _).mono ?_
      rintro e w1 ⟨rfl, hb1⟩
      go_wp2_with fail
      go_ret
      exact ⟨rfl, bthen (balloc0 _ _) hb1⟩
    · have h2 : ¬ (100 : Int) < (n : Int) := by omega
      by_cases h3 : L < 1
      · clear hg
        go_enter Try.func4, Try.ntmps4
        go_wp2_with fail
        refine (alive10 _).mono ?_
        rintro e w1 ⟨rfl, hb1⟩
        go_wp2_with fail
        go_ret
        exact ⟨rfl, bthen (balloc0 _ _) hb1⟩
      · have h4 : 48 < L := by omega
        clear hg
        go_enter Try.func4, Try.ntmps4
        go_wp2_with fail
        refine (alive10 _).mono ?_
        rintro e w1 ⟨rfl, hb1⟩
        go_wp2_with fail
        go_ret
        exact ⟨rfl, bthen (balloc0 _ _) hb1⟩
  · have h2 : ¬ (100 : Int) < (r.length : Int) := by omega
    have h3 : ¬ L < 1 := by omega
    have h4 : ¬ 48 < L := by omega
    have hok := of_ok L r
    have hlen := of_len L r
    have hM := hide (made_c L r (.slice A r.length c) (w.alloc (.cells #[.int .i64 x, .int .i64 y, .int .i64 z] 37)) (hnr.kept (balloc0 _ _)) (by omega) (by omega) hwf)
    have hrl : r.length ≤ 100 := by omega
    clear hg hnr hr hA hc hwf
    generalize ofF L r = l at *
    generalize r.length = n at *
    obtain ⟨ho, hin⟩ := hok
    have hl : l.length ≤ 1000 := by omega
    have hoh := hide ho
    have hinh := hide hin
    have hbxy := Blk.made w 37 #[.int .i64 x, .int .i64 y, .int .i64 z]
    go_enter Try.func4, Try.ntmps4
    go_wp2_with fail
    refine hM.out.mono ?_
    rintro e w1 ⟨g, v, u, rfl, hB, hu, hb1, hf, hfu⟩
    have hbx1 := hbxy.kept hb1
    have hb2 := bthen (balloc0 _ _) hb1
    have hK := hide (fun W (hW : Below w1.heap.size w1 W) => kth_c z g L l v W (hB.kept hW) hoh.out (by omega) hz)
    have hRK := hide (fun W (hW : Below w1.heap.size w1 W) => rkth_c z L l u W (hu.kept hW) hoh.out hinh.out (by omega))
    have hRa := hide (fun W (hW : Below w1.heap.size w1 W) => rank_c x g L l v W (hB.kept hW) hoh.out hinh.out (by omega))
    have hRR := hide (fun W (hW : Below w1.heap.size w1 W) => rrank_c x L l u W (hu.kept hW) hoh.out (by omega))
    have hBe := hide (fun W (hW : Below w1.heap.size w1 W) => between_c x y g L l v W (hB.kept hW) hoh.out (by omega))
    have hRB := hide (fun W (hW : Below w1.heap.size w1 W) => rbetween_c x y L l u W (hu.kept hW) hoh.out (by omega))
    have hE := hide (fun W (hW : Below w1.heap.size w1 W) => (hB.kept hW))
    have hU := hide (fun W (hW : Below w1.heap.size w1 W) => (hu.kept hW))
    obtain ⟨Au, cu, rfl, _, _, _, _⟩ := hu
    have i0 : w1.cell? ⟨w.heap.size, 0, none⟩ = some (.int .i64 x) := by rw [hbx1.cell]; rfl
    have i1 : w1.cell? ⟨w.heap.size, 1, none⟩ = some (.int .i64 y) := by rw [hbx1.cell]; rfl
    have i2 : w1.cell? ⟨w.heap.size, 2, none⟩ = some (.int .i64 z) := by rw [hbx1.cell]; rfl
    have i3 := hbx1.lt
    generalize kthF l z = K at *
    generalize rank x l = rx at *
    generalize bet x y l = bx at *
    obtain ⟨k1, k2⟩ := K
    clear hB hf hfu ho hin
    have hbox := hide (Blk.made w1 29 #[.int .i64 L, .slice Au l.length cu])
    go_wp2_with (first
      | (go_at_call 15; (with_reducible refine (hK.out _ (balloc0 _ _)).mono ?_); rintro e w2 ⟨rfl, rfl⟩)
      | (go_at_call 16; (with_reducible refine (hRK.out _ (balloc0 _ _)).mono ?_); rintro e w3 ⟨rfl, hb3⟩; have hbox3 := hbox.out.kept hb3; have c0 : w3.cell? ⟨w1.heap.size, 0, none⟩ = some (.int .i64 L) := (by rw [hbox3.cell]; rfl); have c1 : w3.cell? ⟨w1.heap.size, 1, none⟩ = some (.slice Au l.length cu) := (by rw [hbox3.cell]; rfl); have c2 := hbox3.lt; have hbx3 := (hbx1.alloc (.cells #[.int .i64 L, .slice Au l.length cu] 29)).kept hb3; have j0 : w3.cell? ⟨w.heap.size, 0, none⟩ = some (.int .i64 x) := (by rw [hbx3.cell]; rfl); have j1 : w3.cell? ⟨w.heap.size, 1, none⟩ = some (.int .i64 y) := (by rw [hbx3.cell]; rfl); have j3 := hbx3.lt))
    have hb13 := (balloc0 w1 _).trans (hb3.mono (by simp))
    have qRa := hide (fun (e : Later w3.heap.size w3) => hRa.out e.val (hb13.trans (e.property.mono hb13.size)))
    have qRR := hide (fun (e : Later w3.heap.size w3) => hRR.out e.val (hb13.trans (e.property.mono hb13.size)))
    have qBe := hide (fun (e : Later w3.heap.size w3) => hBe.out e.val (hb13.trans (e.property.mono hb13.size)))
    have qRB := hide (fun (e : Later w3.heap.size w3) => hRB.out e.val (hb13.trans (e.property.mono hb13.size)))
    refine wp_region_later (by kernel_rfl) (by kernel_rfl) ?_
    repeat (go_big_quiet_step (first
      | (go_at_call 17; exact calls_later (qRa.out _))
      | (go_at_call 18; exact calls_later (qRR.out _))
      | (go_at_call 19; exact calls_later (qBe.out _))
      | (go_at_call 20; exact calls_later (qRB.out _))
      | exact rfl))
    refine wpQuiet_nil ?_
    rintro _ ⟨e4, rfl⟩
    have hb34 := e4.property
    have hbox4 := hbox3.kept hb34
    generalize e4.val = W at *
    have hb14 := hb13.trans (hb34.mono hb13.size)
    have hEW := hE.out _ hb14
    have hUW := hU.out _ hb14
    have hbW := bthen hb2 hb14
    have d0 : W.cell? ⟨w1.heap.size, 0, none⟩ = some (.int .i64 L) := by rw [hbox4.cell]; rfl
    have d1 : W.cell? ⟨w1.heap.size, 1, none⟩ = some (.slice Au l.length cu) := by rw [hbox4.cell]; rfl
    have d2 := hbox4.lt
    clear c0 c1 c2 j0 j1 j3 i0 i1 i2 i3 hb3 hb34 hbox3 hbox4 hbx3 hbx1 hb1 hb13 hbxy hb2 hK hRK hRa hRR hBe hRB hE hU qRa qRR qBe qRB hb14
    by_cases h0 : l.length = 0
    · obtain rfl : l = [] := List.eq_nil_of_length_eq_zero h0
      have hEn := hide (ends_nil g L _ v W hEW)
      simp only [List.length_nil] at d1
      clear hEW hUW h0
      go_wp2_with fail
      refine hEn.out.mono ?_
      rintro e w5 ⟨rfl, rfl⟩
      go_wp2_with fail
      refine (alive10 _).mono ?_
      rintro e w6 ⟨rfl, hb6⟩
      go_wp2_with fail
      go_ret
      exact ⟨rfl, bthen hbW hb6⟩
    · have hEc := ends_cons g L _ l v W hEW (by omega) (by omega)
      obtain ⟨Aq, cq, he, _, _, _, hrq⟩ := hUW
      obtain ⟨b, off, hbq, hbb, r0⟩ := getElem_rd hrq (k := 0) (by omega)
      obtain ⟨b', off', hbq', hbb', r1⟩ := getElem_rd hrq (k := l.length - 1) (by omega)
      injection he with he1 _ he3
      rw [hbq] at he1 hbq'
      injection hbq' with hbq'
      injection hbq' with e1 e2
      subst e1 e2
      have hAu : Au = some ⟨b, off, none⟩ := he1
      rw [hAu] at d1 ⊢
      rw [Nat.zero_mul, Nat.add_zero] at r0
      have r0h := hide r0
      have r1h := hide r1
      obtain ⟨x0, hx0⟩ : ∃ x0, (l[0]'(by omega)).1 = x0 := ⟨_, rfl⟩
      obtain ⟨x1, hx1⟩ : ∃ x1, (l[l.length - 1]'(by omega)).1 = x1 := ⟨_, rfl⟩
      rw [hx0] at hEc r0
      rw [hx1] at hEc r1
      clear r0h r1h hx0 hx1 hrq hEW he3 hAu hbq
      obtain ⟨m, hm1⟩ : ∃ m, l.length = m + 1 := ⟨l.length - 1, by omega⟩
      rw [hm1] at d1 r1 ⊢
      rw [Nat.add_sub_cancel] at r1
      have hm2 : m + 1 ≤ 100 := by omega
      replace hEc := hide hEc
      clear hm1 hlen h0 hl
      have hw1 := IntWalk.i64_in ((((m + 1 : Nat)) : Int) - 1) ⟨by omega, by omega⟩
      have g1 : (((m + 1 : Nat)) : Int) - 1 = (m : Int) := by omega
      rw [g1] at hw1
      have g2 : ¬ (((m + 1 : Nat)) : Int) = 0 := by omega
      have g3 : ((((m + 1 : Nat)) : Int) == 0) = false := by simpa using g2
      have g4 : (m : Int) < (((m + 1 : Nat)) : Int) := by omega
      have g5 : (0 : Int) < (((m + 1 : Nat)) : Int) := by omega
      go_wp2_with fail
      refine hEc.out.mono ?_
      rintro e w5 ⟨rfl, hb5⟩
      have s0 := (hb5.cell (p := ⟨b, off, none⟩) hbb).trans r0
      have s1 := (hb5.cell (p := ⟨b, off + m * 2, none⟩) hbb).trans r1
      have s2 := Nat.lt_of_lt_of_le hbb hb5.size
      have s3 := (hb5.cell (p := ⟨w1.heap.size, 1, none⟩) d2).trans d1
      have s4 := Nat.lt_of_lt_of_le d2 hb5.size
      go_wp2_with fail
      refine (alive10 _).mono ?_
      rintro e w6 ⟨rfl, hb6⟩
      go_wp2_with fail
      go_ret
      exact ⟨rfl, bthen (bthen hbW hb5) hb6⟩
end Go.Proofs.Ytkjihbaiofocgaa

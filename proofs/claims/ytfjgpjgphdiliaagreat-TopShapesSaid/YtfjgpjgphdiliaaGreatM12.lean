/- Part 12 of the proof: texts joined by this repo's tools/merge.py (PrbT Srt). By the prover of this repo. -/
import Derived.Test.YtfjgpjgphdiliaaGreatM11
import Derived.BigRegion
import Derived.Test.YtfjgpjgphdiliaaGreatM9
set_option linter.unusedVariables false
set_option linter.unusedSimpArgs false
/- The walks of layer 8, on: a node taken away; all nodes, by rising numbers. By the prover of this repo. -/
namespace Go.Proofs.YtfjgpjgphdiliaaGreat
open Go.RowKit
open TwigM RollM StoM

theorem probe_way (g b k i j : Nat) (w : World) (hk : k ≤ 40) (hi : i < 2 ^ k) (hj : j < 2 ^ k) (c4 : w.cell? ⟨g, 4, none⟩ = some (.slice (some ⟨b, 0, none⟩) (2 ^ k) (2 ^ k))) :
    Calls Tryz.prog 121 #[.pointer (some ⟨g, 0, none⟩), .int .i64 (i : Int), .int .i64 (j : Int)] w fun e w' => e = .returned (.int .i64 (wayN (2 ^ k) i j : Int)) ∧ w = w' := by
  have hp : 2 ^ k ≤ 2 ^ 40 := Nat.pow_le_pow_right (by omega) hk
  have hm := and_mask ((j : Int) - (i : Int)) k (by omega)
  rw [way_mod hi hj] at hm
  have hpos : 0 < 2 ^ k := Nat.two_pow_pos k
  rw [show (2 : Nat) ^ 40 = 1099511627776 from rfl] at hp
  generalize 2 ^ k = n at *
  go_enter Tryz.func121, Tryz.ntmps121
  go_wp2_with fail
  go_ret
  exact ⟨rfl, rfl⟩
theorem quiet_same {P : Program} {f : FuncId} {args : Array Value} {w : World} {n : Nat} {v : Value} (h : Calls P f args (w.drewN n) fun e w' => e = .returned v ∧ w.drewN n = w') : Calls P f args (w.drewN n) fun e w'' => e = .returned v ∧ ∃ m, w'' = w.drewN m :=
  h.mono fun _ _ ⟨he, hm⟩ => ⟨he, n, hm.symm⟩
theorem hol_in {hm : Int → Nat} {S l : List Nd} {h i j : Nat} {L : Int} (H : Hol hm S l h i) (hu : InU L l) (hj : j < S.length) (hc : 0 < cntA S j) : 1 ≤ idA S j ∧ idA S j < 2 * pw L := by
  have hp : (idA S j, cntA S j) ∈ occ S := occ_mem.2 ⟨j, hj, hc, rfl⟩
  have h1 := wt_ge hp occ_cntL
  simp only [] at h1
  rw [H.same] at h1
  obtain ⟨p, hp2, e⟩ := mem_wt (show wt (idA S j) l ≠ 0 by omega)
  rw [← e]; exact hu p hp2
theorem way_self (n a : Nat) : wayN n a a = 0 := by unfold wayN; rw [if_pos (Nat.le_refl _)]; omega
theorem way_zero {n a b : Nat} (ha : a < n) (hb : b < n) (h : wayN n a b = 0) : a = b := by
  unfold wayN at h
  split at h <;> omega
/-- One step on, as seen from a hole. -/
theorem way_on {n h i e : Nat} (hh : h < n) (hi : i < n) (he : e < n) (hie : i ≠ e) (hle : wayN n h i ≤ wayN n h e) : nxtN n i ≠ h ∧ wayN n h (nxtN n i) ≤ wayN n h e ∧ nxtN n i < n := by
  unfold wayN nxtN at *
  split at hle <;> split at hle <;> split <;> (refine ⟨by omega, ?_, by omega⟩; first | omega | (split <;> first | omega | (split <;> omega)))
theorem way_one {n h e : Nat} (hh : h < n) (he : e < n) (hne : h ≠ e) (h2 : 2 ≤ n) : nxtN n h ≠ h ∧ wayN n h (nxtN n h) ≤ wayN n h e ∧ nxtN n h < n := by
  unfold wayN nxtN
  split <;> (refine ⟨by omega, ?_, by omega⟩; first | omega | (split <;> first | omega | (split <;> omega)))
set_option maxRecDepth 100000 in
set_option maxHeartbeats 2000000 in
theorem probe_take (g b k : Nat) (S : List Nd) (L x : Int) (l : List Nd) (w : World) (h : PrbAt w g b k S L l) (hcn : Canon l) (hu : InU L l) (hm : sumL l ≤ 72057594037927935) (hlen : l.length ≤ 1000000) (hk : k ≤ 26) :
    Calls Tryz.prog 90 #[.pointer (some ⟨g, 0, none⟩), .int .i64 x] w fun e w' => e = .returned (.int .i64 (wt x l)) ∧ ∃ S', PrbAt w' g b k S' L (del x l) ∧ Turn (fun j => j = g ∨ j = b) w w' := by
  have hL48 := pw_le48 h.l2
  have hR := hide (fun W (hW : PrbRaw W g b k S L (l.length : Int) (sumL l)) => probe_right g b k S L (l.length : Int) (sumL l) x W hW)
  have hh := hide h
  by_cases hr : 1 ≤ x ∧ x < 2 * pw L
  · rw [right_mk h.l1 h.l2 hr.1 hr.2] at hR
    obtain ⟨e0, he0, hce0⟩ := h.room hcn
    have hLk := hide (h.raw.look x hr.1 (by omega) ⟨e0, he0, hce0⟩)
    have hhm := hmF_lt k (by omega) x
    have hlk := hide (fun (r : Nat) (q1 : r < S.length) (q2 : stopB S x r = true) q3 => h.tab.look (x := x) (by rw [h.raw.len]; exact hhm) q1 q2 q3)
    obtain ⟨hbig1, hbig2⟩ := h.raw.big
    have hSl := h.raw.len
    have hhalf := h.half
    have hne := h.raw.ne
    have hNx := hide (fun (i : Nat) (hi : i < 2 ^ k) (W : World) (c4 : W.cell? ⟨g, 4, none⟩ = some (.slice (some ⟨b, 0, none⟩) (2 ^ k) (2 ^ k))) => probe_next g b k i W (by omega) hi c4)
    have hWy := hide (fun (i j : Nat) (hi : i < 2 ^ k) (hj : j < 2 ^ k) (W : World) (c4 : W.cell? ⟨g, 4, none⟩ = some (.slice (some ⟨b, 0, none⟩) (2 ^ k) (2 ^ k))) => probe_way g b k i j W (by omega) hi hj c4)
    have hk3 := h.raw.k1
    have hHm := hide (fun (y : Int) (h1 : 1 ≤ y) (h2 : y ≤ 9223372036854775807) (W : World) => probe_home k y W (by omega) (by omega) h1 h2)
    have hml := hide (fun (y : Int) => hmF_lt k (by omega) y)
    obtain ⟨n, hn⟩ : ∃ n, 2 ^ k = n := ⟨_, rfl⟩
    rw [hn] at hbig1 hbig2 hSl hNx hWy hml
    replace hn := hide hn
    by_cases hz : wt x l = 0
    · rw [hz, del_none hcn hz]
      clear h
      go_enter Tryz.func90, Tryz.ntmps90
      go_wp2_with fail
      refine Calls.mono (hR.out _ hh.out.raw) ?_
      rintro e w1 ⟨rfl, rfl⟩
      go_wp2_with fail
      refine Calls.mono hLk.out ?_
      rintro e w1 ⟨⟨r, m, rfl, hr1, hr2, hr3⟩, hb1⟩
      have hcr := (hlk.out r hr1 hr2 hr3).1
      rw [hz] at hcr
      have hraw1 := hh.out.raw.kept hb1
      obtain ⟨-, -, -, -, c4, -⟩ := hraw1.cells
      rw [hn.out] at c4
      obtain ⟨-, d1⟩ := nd_cells hraw1.arr hr1
      rw [hcr] at d1
      have hri : (r : Int) < (n : Int) := by omega
      have hb2 := hraw1.lt.2
      have hb1h := hide hb1
      clear hraw1 hb1
      go_wp2_with fail
      go_ret
      exact ⟨rfl, S, hh.out.kept hb1h.out, Below.turn hb1h.out _⟩
    · have hwp : 0 < wt x l := by have := wt_nonneg x l hcn.cntL; omega
      have hwle : wt x l ≤ sumL l := by
        have := sumM_split (fun _ => 1) x l
        rw [← sumL_M] at this
        have h2 := sumM_nonneg (g := fun _ => 1) (l := del x l) (fun p hp => hcn.cntL p (del_mem.1 hp).1) (fun _ _ => by omega)
        omega
      have hln := len_del hcn x
      rw [if_neg hz] at hln
      have hpos : 0 < l.length := by obtain ⟨p, hp, _⟩ := mem_wt hz; exact List.length_pos_of_mem hp
      have hl' : Hid ((l.length : Int) - 1 = ((del x l).length : Int)) := by show _ = _; omega
      have hsm : Hid (sumL (del x l) = sumL l - wt x l) := sumL_del x l
      have hud := hide (inU_del hu x)
      have hzf : (wt x l == 0) = false := by simpa using hz
      clear h
      go_enter Tryz.func90, Tryz.ntmps90
      go_wp2_with fail
      refine Calls.mono (hR.out _ hh.out.raw) ?_
      rintro e w1 ⟨rfl, rfl⟩
      go_wp2_with fail
      refine Calls.mono hLk.out ?_
      rintro e w1 ⟨⟨r, m, rfl, hr1, hr2, hr3⟩, hb1⟩
      obtain ⟨hcr, hir⟩ := hlk.out r hr1 hr2 hr3
      have hir := hir hz
      have hraw1 := hh.out.raw.kept hb1
      obtain ⟨-, -, -, -, c4, -⟩ := hraw1.cells
      have c4n := hide c4
      rw [hn.out] at c4
      obtain ⟨d0, d1⟩ := nd_cells hraw1.arr hr1
      have hrn : r < n := by omega
      have hri : (r : Int) < (n : Int) := by omega
      have f5 := hraw1.arr.free (r * 2)
      have f6 := hraw1.arr.free (r * 2 + 1)
      obtain ⟨hg2, hb2⟩ := hraw1.lt
      have hst : Hid (PrbRaw ((w1.setCell ⟨b, r * 2, none⟩ (.int .i64 0)).setCell ⟨b, r * 2 + 1, none⟩ (.int .i64 0)) g b k (S.set r (0, 0)) L (l.length : Int) (sumL l)) := hraw1.store hr1 (0, 0)
      have hhole := hh.out.tab.hole hr1 (by omega)
      rw [hir] at hhole
      have hre : r ≠ e0 := fun e => by subst e; omega
      have hhole := hide hhole
      have hce : Hid (cntA (S.set r (0, 0)) e0 = 0) := by
        show _ = _
        unfold cntA
        rw [getD_set, if_neg (fun q => hre q.1)]
        exact hce0
      have htu := hide ((Below.turn hb1 (fun j => j = g ∨ j = b)).trans (turn2 g b w1 (x := ⟨b, r * 2, none⟩) (y := ⟨b, r * 2 + 1, none⟩) (.int .i64 0) (.int .i64 0) (.inr rfl) (.inr rfl)) fun _ _ q => q)
      rw [hcr] at d1
      replace hcr := hide hcr
      clear hr2 hr3 hb1 hraw1 hlk hLk
      go_wp2_with fail
      have hS1 : (S.set r (0, 0)).length = n := by rw [List.length_set]; exact hSl
      generalize (w1.setCell ⟨b, r * 2, none⟩ (.int .i64 0)).setCell ⟨b, r * 2 + 1, none⟩ (.int .i64 0) = W2 at hst htu ⊢
      generalize hS1' : S.set r (0, 0) = S1 at *
      replace hS1' := hide hS1'
      have k4 := hst.out.cells.2.2.2.2.1
      rw [hn.out] at k4
      have hN1 := hide (hNx.out r hrn W2 k4)
      have hw1 := way_one hrn (show e0 < n by omega) hre (by omega)
      clear c4 d0 d1 f5 f6 k4
      refine Calls.mono hN1.out ?_
      rintro e w2 ⟨rfl, rfl⟩
      go_wp2_with fail
      go_loopw [5, 8] (fun hv iv wr => ∃ (hl i : Nat) (S' : List Nd), hv = .int .i64 (hl : Int) ∧ iv = .int .i64 (i : Int) ∧ hl < n ∧ i < n ∧ S'.length = n ∧ PrbRaw wr g b k S' L (l.length : Int) (sumL l) ∧ Hid (Hol (hmF k) S' (del x l) hl i) ∧ Hid (cntA S' e0 = 0) ∧ hl ≠ e0 ∧ i ≠ hl ∧ wayN n hl i ≤ wayN n hl e0 ∧ Turn (fun j => j = g ∨ j = b) w wr) (fun _ iv _ => wayN n (intOf iv).toNat e0)
      case atStart => exact ⟨r, nxtN n r, S1, rfl, rfl, hrn, hw1.2.2, hS1, hst.out, by rw [← hSl]; exact hhole.out, hce.out, hre, hw1.1, hw1.2.1, htu.out⟩
      case round =>
        clear hst htu hhole hce hw1 hN1 hS1 hS1' hri
        obtain ⟨hl, i, S', rfl, rfl, hhl, hi, hSl', hraw, hhol, hce, hhe, hih, hwl, htr⟩ := hrel
        obtain ⟨-, c1, c2, c3, c4, -, f2, f3, -⟩ := hraw.cells
        rw [hn.out] at c4
        obtain ⟨d0, d1⟩ := nd_cells hraw.arr (i := i) (by omega)
        obtain ⟨hg2, hb2⟩ := hraw.lt
        have hri : (i : Int) < (n : Int) := by omega
        have hp := hhol.out.pos i
        by_cases hc : cntA S' i = 0
        · have htab := hide (hhol.out.shut (by omega) (by omega) hih hc (fun y => by rw [hSl']; exact hml.out y))
          have hfin := hide ((hraw.setU ((l.length : Int) - 1)).setT (sumL l - wt x l))
          have htf := hide (htr.trans (turn2 g b wr (x := ⟨g, 2, none⟩) (y := ⟨g, 3, none⟩) (.int .i64 ((l.length : Int) - 1)) (.int .i64 (sumL l - wt x l)) (.inl rfl) (.inl rfl)) fun _ _ q => q)
          rw [hc] at d1
          replace hl' := hl'
          clear hraw hhol htr hp hc
          go_wp2_with fail
          go_ret
          refine ⟨rfl, S', ⟨?_, htab.out, by rw [hSl']; omega, hh.out.l1, hh.out.l2⟩, htf.out⟩
          rw [← hl'.out, hsm.out]
          exact hfin.out
        · have hcp : 0 < cntA S' i := by omega
          obtain ⟨hid1, hid2⟩ := hol_in hhol.out hud.out (by omega) hcp
          have hie : i ≠ e0 := fun q => by subst q; exact hc hce.out
          have hH1 := hide (fun W => hHm.out (idA S' i) hid1 (by omega) W)
          have hwon := way_on hhl hi (show e0 < n by omega) hie hwl
          go_wp2_with fail
          go_quiet ((go_at_call 120; exact quiet_same (hH1.out _)))
          go_wp2_with fail
          have hraw3 := hide (hraw.drewN nq)
          have htr3 := hide (htr.drewN nq)
          clear hraw htr c1 c2 c3 c4 f2 f3 d0 d1
          generalize wr.drewN nq = W3 at hraw3 htr3 ⊢
          have hr3' := hraw3.out
          obtain ⟨-, -, -, -, k4, -, -, -, -⟩ := hr3'.cells
          rw [hn.out] at k4
          have hh1 := hml.out (idA S' i)
          have hA1 := hide (hWy.out (hmF k (idA S' i)) hl hh1 hhl W3 k4)
          have hA2 := hide (hWy.out (hmF k (idA S' i)) i hh1 hi W3 k4)
          obtain ⟨d0, d1⟩ := nd_cells hr3'.arr (i := i) (by omega)
          obtain ⟨y0, y1⟩ := nd_cells hr3'.arr (i := hl) (by omega)
          have z0 := hr3'.arr.free (i * 2)
          have z1 := hr3'.arr.free (i * 2 + 1)
          have z2 := hr3'.arr.free (hl * 2)
          have z3 := hr3'.arr.free (hl * 2 + 1)
          have hb3 := hr3'.lt.2
          have hg3 := hr3'.lt.1
          have hli : (hl : Int) < (n : Int) := by omega
          by_cases hle : wayN n (hmF k (idA S' i)) hl ≤ wayN n (hmF k (idA S' i)) i
          · have hmv := hide (hhol.out.move (by omega) (by omega) hih hcp (fun y => by rw [hSl']; exact hml.out y) (by rw [hSl']; exact hle))
            have hst1 : PrbRaw ((W3.setCell ⟨b, hl * 2, none⟩ (.int .i64 (idA S' i))).setCell ⟨b, hl * 2 + 1, none⟩ (.int .i64 (cntA S' i))) g b k (S'.set hl (S'.getD i (0, 0))) L (l.length : Int) (sumL l) := hr3'.store (by omega) (S'.getD i (0, 0))
            have hst2 : Hid (PrbRaw ((((W3.setCell ⟨b, hl * 2, none⟩ (.int .i64 (idA S' i))).setCell ⟨b, hl * 2 + 1, none⟩ (.int .i64 (cntA S' i))).setCell ⟨b, i * 2, none⟩ (.int .i64 0)).setCell ⟨b, i * 2 + 1, none⟩ (.int .i64 0)) g b k ((S'.set hl (S'.getD i (0, 0))).set i (0, 0)) L (l.length : Int) (sumL l)) := hst1.store (by rw [List.length_set]; omega) (0, 0)
            have htt := hide ((htr3.out.trans (turn2 g b W3 (x := ⟨b, hl * 2, none⟩) (y := ⟨b, hl * 2 + 1, none⟩) (.int .i64 (idA S' i)) (.int .i64 (cntA S' i)) (.inr rfl) (.inr rfl)) fun _ _ q => q).trans (turn2 g b _ (x := ⟨b, i * 2, none⟩) (y := ⟨b, i * 2 + 1, none⟩) (.int .i64 0) (.int .i64 0) (.inr rfl) (.inr rfl)) fun _ _ q => q)
            have hce2 : Hid (cntA ((S'.set hl (S'.getD i (0, 0))).set i (0, 0)) e0 = 0) := by
              show _ = _
              unfold cntA
              rw [getD_set, getD_set, if_neg (fun q => hie q.1), if_neg (fun q => hhe q.1)]
              exact hce.out
            have hlen2 : Hid (((S'.set hl (S'.getD i (0, 0))).set i (0, 0)).length = n) := by show _ = _; rw [List.length_set, List.length_set]; exact hSl'
            have hw1 := hide (way_one hi (show e0 < n by omega) hie (by omega))
            have hdist : hl * 2 ≠ i * 2 := by omega
            have hwm := hide (way_nxt hi (show e0 < n by omega) hie).1
            rw [hSl'] at hmv
            generalize idA S' i = ii at *
            generalize cntA S' i = ci at *
            generalize hmF k ii = h1 at *
            generalize (S'.set hl (S'.getD i (0, 0))).set i (0, 0) = S'' at *
            clear hst1 hhol hr3' hwon hH1 hce
            refine Calls.mono hA1.out ?_
            rintro e w5 ⟨rfl, rfl⟩
            go_wp2_with fail
            refine Calls.mono hA2.out ?_
            rintro e w5 ⟨rfl, rfl⟩
            go_wp2_with fail
            go_region
            have hst3 := hide hst2.out.drew
            have htt3 := hide (htt.out.drewN 1)
            have e1 : ∀ V : World, V.drewN 1 = V.drew := fun _ => rfl
            rw [e1] at htt3
            clear hst2 htt d0 d1 y0 y1 z0 z1 z2 z3 k4
            generalize ((((W3.setCell ⟨b, hl * 2, none⟩ (.int .i64 ii)).setCell ⟨b, hl * 2 + 1, none⟩ (.int .i64 ci)).setCell ⟨b, i * 2, none⟩ (.int .i64 0)).setCell ⟨b, i * 2 + 1, none⟩ (.int .i64 0)).drew = W4 at hst3 htt3 ⊢
            have k4 := hst3.out.cells.2.2.2.2.1
            rw [hn.out] at k4
            have hN1 := hide (hNx.out i hi W4 k4)
            go_wp2_with fail
            refine Calls.mono hN1.out ?_
            rintro e w5 ⟨rfl, rfl⟩
            go_wp2_with fail
            go_roundw
            case rel => exact ⟨i, nxtN n i, S'', rfl, rfl, hi, hw1.out.2.2, hlen2.out, hst3.out, hmv.out, hce2.out, hie, hw1.out.1, hw1.out.2.1, htt3.out⟩
            case measure =>
              have := hwm.out
              simp [intOf]; omega
          · have hsy := hide (hhol.out.stay (by omega) (by omega) hih hcp (by rw [hSl']; exact hwon.1) (fun y => by rw [hSl']; exact hml.out y) (by rw [hSl']; exact hle))
            have hwm := hide (way_nxt hi (show e0 < n by omega) hie).1
            have hN1 := hide (hNx.out i hi W3 k4)
            rw [hSl'] at hsy
            generalize hmF k (idA S' i) = h1 at *
            clear hhol hr3' hH1
            refine Calls.mono hA1.out ?_
            rintro e w5 ⟨rfl, rfl⟩
            go_wp2_with fail
            refine Calls.mono hA2.out ?_
            rintro e w5 ⟨rfl, rfl⟩
            go_wp2_with fail
            refine Calls.mono hN1.out ?_
            rintro e w5 ⟨rfl, rfl⟩
            go_wp2_with fail
            go_roundw
            case rel => exact ⟨hl, nxtN n i, S', rfl, rfl, hhl, hwon.2.2, hSl', hraw3.out, hsy.out, hce, hhe, hwon.1, hwon.2.1, htr3.out⟩
            case measure =>
              have := hwm.out
              simp [intOf]; omega
  · have hrb : rightB L x = false := by rw [Bool.eq_false_iff]; intro q; have := right_iff.1 q; omega
    rw [hrb] at hR
    have hz := wt_out hu hr
    rw [hz, del_none hcn hz]
    clear h
    go_enter Tryz.func90, Tryz.ntmps90
    go_wp2_with fail
    refine Calls.mono (hR.out _ hh.out.raw) ?_
    rintro e w1 ⟨rfl, rfl⟩
    go_wp2_with fail
    go_ret
    exact ⟨rfl, S, hh.out, Turn.refl _ _⟩
end Go.Proofs.YtfjgpjgphdiliaaGreat
/- The walks of layer 6, once more: a list in order, in memory that the call has made. By the prover of this repo. -/
namespace Go.Proofs.YtfjgpjgphdiliaaGreat
open Go.RowKit
open TwigM RollM

theorem own_low {w : World} {b c : Nat} {e : TypeId} {size : Nat} {v : Value} {n : Nat} {xs : List Value} (hbc : c ≤ b) (h : w.ownsRow b e size v n xs) : w.ownsRow c e size v n xs := by
  refine ⟨h.1, ?_⟩
  rcases h.2 with h2 | ⟨g, cap, cur, rfl, hb, rest⟩
  · exact .inl h2
  · exact .inr ⟨g, cap, cur, rfl, Nat.le_trans hbc hb, rest⟩
set_option maxRecDepth 100000 in
theorem clone_o (A : Option Addr) (c : Nat) (l : List Nd) (w : World) (hr : Rd w A l.length 2 (ndc l)) (hA : A = none → l.length = 0) (hl : l.length ≤ 1000000) :
    Calls Tryz.prog 139 #[.slice A l.length c] w fun e w' => ∃ v, e = .returned v ∧ w'.ownsRow w.heap.size 76 2 v l.length (ndv l) ∧ Below w.heap.size w w' := by
  cases A with
  | none =>
    have h0 := hA rfl
    have hn : l = [] := List.eq_nil_of_length_eq_zero h0
    subst hn
    have he := fun V => Lib.run_eql_slice_nil (P := Tryz.prog) V 73 76 none 0 c 0 0 Tryz.underlying73
    go_enter Tryz.func139, Tryz.ntmps139
    go_wp2_with fail
    go_ret
    exact ⟨_, rfl, World.ownsRow_nil _ _ _ _, Below.refl _ _⟩
  | some ad =>
    have hlen : Hid (l.length = l.length) := rfl
    have hrh := hide hr
    have hrange := hide (ndv_range l)
    have hone := hide (ndc_one l)
    obtain ⟨n, hn⟩ : ∃ n, l.length = n := ⟨_, rfl⟩
    rw [hn] at hl hrange
    have hrn : Hid (Rd w (some ad) n 2 (ndc l)) := by have := hr; rwa [hn] at this
    have hnh := hide hn
    rw [hn]
    clear hr hA hn hlen hrh
    have he := fun V => Lib.run_eql_slice_nil (P := Tryz.prog) V 73 76 (some ad) n c 0 0 Tryz.underlying73
    go_enter Tryz.func139, Tryz.ntmps139
    go_wp2_with (at_builtin; refine wpList_app elNode rfl (.tmp 5) (.tmp 6) rfl w.heap.size _ 0 [] rfl (World.ownsRow_lit w #[] 0 (Nat.le_refl _) (by unfold maxLen; omega) rfl) (some ad) n c (ndc l) rfl (hrn.out.alloc _) (fun i _ => hone.out i) (by omega) (by simp) (fun k => by cases k) ?_; intro v1 w1 how1 hb1 hgr1 hat1)
    go_ret
    have how2 : w1.ownsRow w.heap.size 76 2 v1 l.length (ndv l) := by
      rw [hrange.out, Nat.zero_add, List.nil_append] at how1
      rw [hnh.out]
      exact how1
    exact ⟨_, rfl, by rw [← hnh.out]; exact how2, (balloc0 _ _).trans hb1⟩
set_option maxRecDepth 100000 in
set_option maxHeartbeats 8000000 in
theorem sorted_O  : ∀ (k n : Nat), n ≤ k → ∀ (A : Option Addr) (c : Nat) (l : List Nd) (w : World), Hid (l.length = n) → n ≤ 1000000 → Rd w A n 2 (ndc l) → (A = none → n = 0) → n ≤ c → c ≤ maxLen → CmpS  w →
    Calls Tryz.prog 122 #[.slice A n c, .func (.func 123) #[] #[]] w fun e w' => ∃ v, e = .returned v ∧ w'.ownsRow w.heap.size 76 2 v (isort (ltS) l).length (ndv (isort (ltS) l)) ∧ Below w.heap.size w w' := by
  intro k
  induction k with
  | zero =>
    intro n hk A c l w hl hn hr hA hnc hc hcmp
    obtain rfl : n = 0 := by omega
    have hcl := clone_o A c l w (by rw [hl.out]; exact hr) (by rw [hl.out]; exact hA) (by rw [hl.out]; omega)
    rw [hl.out] at hcl
    have hs : Hid (isort (ltS) l = l) := isort_short (by rw [hl.out]; omega)
    replace hcl := hide hcl
    clear hr hA hcmp
    go_enter Tryz.func122, Tryz.ntmps122
    go_wp2_with fail
    refine hcl.out.mono ?_
    rintro e w1 ⟨v, rfl, hv, hb1⟩
    go_wp2_with fail
    go_ret
    exact ⟨v, rfl, by rw [hs.out, hl.out]; exact hv, hb1⟩
  | succ k ih =>
    intro n hk A c l w hl hn hr hA hnc hc hcmp
    by_cases h2 : n < 2
    · have hcl := clone_o A c l w (by rw [hl.out]; exact hr) (by rw [hl.out]; exact hA) (by rw [hl.out]; omega)
      rw [hl.out] at hcl
      have hs : Hid (isort (ltS) l = l) := isort_short (by rw [hl.out]; omega)
      replace hcl := hide hcl
      clear hr hA hcmp ih
      go_enter Tryz.func122, Tryz.ntmps122
      go_wp2_with fail
      refine hcl.out.mono ?_
      rintro e w1 ⟨v, rfl, hv, hb1⟩
      go_wp2_with fail
      go_ret
      exact ⟨v, rfl, by rw [hs.out, hl.out]; exact hv, hb1⟩
    · obtain ⟨b, off, rfl, hb, hcell⟩ := hr (by omega)
      obtain ⟨mid, hmid⟩ : ∃ mid : Nat, (n : Int) / 2 = (mid : Int) := ⟨n / 2, by omega⟩
      have hm1 : 1 ≤ mid := by omega
      have hm2 : mid < n := by omega
      have hl1 : Hid ((l.take mid).length = mid) := by show _ = _; rw [List.length_take, hl.out]; omega
      have hl2 : Hid ((l.drop mid).length = n - mid) := by show _ = _; rw [List.length_drop, hl.out]
      have hr1 : Rd w (some ⟨b, off, none⟩) mid 2 (ndc (l.take mid)) := (hr.less (by omega)).congr fun i hi => by rw [ndc_take l mid i hi]
      have hr2 : Rd w (some ⟨b, off + mid * 2, none⟩) (n - mid) 2 (ndc (l.drop mid)) := fun _ => ⟨b, off + mid * 2, rfl, hb, fun i hi => by rw [Nat.add_assoc, hcell (mid * 2 + i) (by omega), ndc_drop]⟩
      have ih1 := hide (fun W' (hW : Below w.heap.size w W') => ih mid (by omega) (some ⟨b, off, none⟩) c (l.take mid) W' hl1 (by omega) (hr1.kept hW) (fun h => by cases h) (by omega) hc (hcmp.kept hW))
      have ih2 := hide (fun W' (hW : Below w.heap.size w W') => ih (n - mid) (by omega) (some ⟨b, off + mid * 2, none⟩) (c - mid) (l.drop mid) W' hl2 (by omega) (hr2.kept hW) (fun h => by cases h) (by omega) (by omega) (hcmp.kept hW))
      have hjoin := hide (isort_append (ordS) (l.take mid) (l.drop mid))
      have hmc : ¬ c = mid := by omega
      have hnm : ((n : Int) - (mid : Int)) = ((n - mid : Nat) : Int) := by omega
      have hcm : ((c : Int) - (mid : Int)) = ((c - mid : Nat) : Int) := by omega
      have hcmpH := hide hcmp
      have hlenH := hl
      clear hr hA hcell hr1 hr2 ih hcmp
      unfold maxLen at hc
      go_enter Tryz.func122, Tryz.ntmps122
      go_upto_region 4 with (fail)
      go_cut [6, 7] (fun va vb wc => Nds wc va (isort (ltS) (l.take mid)) ∧ Nds wc vb (isort (ltS) (l.drop mid)) ∧ Below w.heap.size w wc)
      case first =>
        go_region_with (go_at_call 122; first
          | ((with_reducible refine (ih1.out _ ?_).mono ?_); (first | exact Below.refl _ _ | exact (Below.refl _ _).drew | exact hb1 | exact hb2 | exact (Below.refl _ _).drew.trans hb1 | exact (Below.refl _ _).drew.trans hb2); rintro e w1 ⟨v1, rfl, hv1, hb1⟩)
          | ((with_reducible refine (ih2.out _ ?_).mono ?_); (first | exact Below.refl _ _ | exact (Below.refl _ _).drew | exact hb1 | exact hb2 | exact (Below.refl _ _).drew.trans hb1 | exact (Below.refl _ _).drew.trans hb2); rintro e w1 ⟨v2, rfl, hv2, hb2⟩))
        all_goals (go_wp2_with fail; go_meet)
        all_goals first
          | exact ⟨(own_nds hv1).kept hb2, own_nds hv2, bthen ((Below.refl _ _).drew.trans hb1) hb2⟩
          | exact ⟨own_nds hv1, (own_nds hv2).kept hb1, bthen ((Below.refl _ _).drew.trans hb2) hb1⟩
      case rest =>
        obtain ⟨hva, hvb, hbo⟩ := hcut
        have hla := hide (isort_length (lt := ltS) (l.take mid))
        have hlb := hide (isort_length (lt := ltS) (l.drop mid))
        have hG0 := hjoin.out
        rw [List.take_append_drop] at hG0
        generalize hGe : isort (ltS) l = G at *
        replace hG0 := hide hG0
        replace hGe := hide hGe
        generalize isort (ltS) (l.take mid) = la0 at *
        generalize isort (ltS) (l.drop mid) = lb0 at *
        have hlen : la0.length + lb0.length = n := by rw [hla.out, hlb.out, hl1.out, hl2.out]; omega
        have hcmpO := hide (hcmpH.out.kept hbo)
        clear ih1 ih2 hjoin hla hlb hcmpH hmid hnm hcm hmc
        go_wp2_with fail
        go_loopw [6, 7, 8] (fun va vb out wr => MrgRel (ltS) wc n G va vb out wr) (fun va vb _ _ => sliceLen va + sliceLen vb)
        case atStart => exact ⟨la0, lb0, [], hva, hvb, World.ownsRow_nil _ _ _ _, by simpa using hlen, by show _ = _; rw [List.nil_append]; exact hG0.out, Below.refl _ _⟩
        case round =>
          clear hva hvb hlen
          obtain ⟨la, lb, acc, hva, hvb, how, hlen, hgo, hbel⟩ := hrel
          cases la with
          | nil =>
            have hend : Hid (acc ++ ([] : List Nd) ++ lb = G) := by show _ = _; rw [← hgo.out, mrg_nil]; simp
            obtain ⟨Aa, ca, rfl, hAa, _, _, hRa⟩ := hva
            obtain ⟨Ab, cb, rfl, hAb, _, _, hRb⟩ := hvb
            have hra := hide (ndv_range ([] : List Nd))
            have hrb := hide (ndv_range lb)
            obtain ⟨na, hna⟩ : ∃ na, (([] : List Nd)).length = na := ⟨_, rfl⟩
            obtain ⟨nb, hnb⟩ : ∃ nb, (lb).length = nb := ⟨_, rfl⟩
            rw [hna] at hlen hAa hRa hra
            rw [hnb] at hlen hAb hRb hrb
            obtain ⟨m0, hm0⟩ : ∃ m0, acc.length = m0 := ⟨_, rfl⟩
            rw [hm0] at hlen how
            have hna0 : na = 0 := by rw [← hna]; rfl
            subst hna0
            have hm0h := hide hm0
            have hnah := hide hna
            have hnbh := hide hnb
            rw [hna, hnb]
            clear hm0 hna hnb
            go_wp2_with (first
              | (at_builtin; refine wpList_app elNode rfl (.tmp 59) (.tmp 60) rfl wc.heap.size _ _ _ rfl how Aa 0 ca (ndc (([] : List Nd))) rfl (hRa.of_below (Nat.le_refl _) hbel) (fun i _ => ndc_one _ i) (by omega) hbel.size hAa ?_; intro v1 w1 how1 hb1 hgr1 hat1)
              | (at_builtin; refine wpList_app elNode rfl (.tmp 61) (.tmp 62) rfl wc.heap.size _ _ _ rfl how1 Ab nb cb (ndc (lb)) rfl (hRb.of_below (Nat.le_refl _) (hbel.trans hb1)) (fun i _ => ndc_one _ i) (by omega) (hbel.trans hb1).size hAb ?_; intro v2 w2 how2 hb2 hgr2 hat2))
            have hbel1 := hbel.trans hb1
            go_ret
            refine ⟨v2, rfl, ?_, bthen hbo (hbel1.trans hb2)⟩
            rw [hGe.out, ← hend.out]
            refine own_low hbo.size ?_
            rw [hra.out, hrb.out, ← ndv_append, ← ndv_append] at how2
            have e : (acc ++ ([] : List Nd) ++ lb).length = m0 + 0 + nb := by rw [List.length_append, List.length_append, hm0h.out, hnah.out, hnbh.out]
            rw [e]
            exact how2
          | cons x la =>
            cases lb with
            | nil =>
              have hend : Hid (acc ++ (x :: la) ++ ([] : List Nd) = G) := by show _ = _; rw [← hgo.out, mrg_nil']; simp
              obtain ⟨Aa, ca, rfl, hAa, _, _, hRa⟩ := hva
              obtain ⟨Ab, cb, rfl, hAb, _, _, hRb⟩ := hvb
              have hra := hide (ndv_range (x :: la))
              have hrb := hide (ndv_range ([] : List Nd))
              obtain ⟨na, hna⟩ : ∃ na, ((x :: la)).length = na := ⟨_, rfl⟩
              obtain ⟨nb, hnb⟩ : ∃ nb, (([] : List Nd)).length = nb := ⟨_, rfl⟩
              rw [hna] at hlen hAa hRa hra
              rw [hnb] at hlen hAb hRb hrb
              obtain ⟨m0, hm0⟩ : ∃ m0, acc.length = m0 := ⟨_, rfl⟩
              rw [hm0] at hlen how
              have hnb0 : nb = 0 := by rw [← hnb]; rfl
              subst hnb0
              have hna0 : (0 : Int) < (na : Int) := by rw [← hna]; simp
              have hm0h := hide hm0
              have hnah := hide hna
              have hnbh := hide hnb
              rw [hna, hnb]
              clear hm0 hna hnb
              go_wp2_with (first
                | (at_builtin; refine wpList_app elNode rfl (.tmp 59) (.tmp 60) rfl wc.heap.size _ _ _ rfl how Aa na ca (ndc ((x :: la))) rfl (hRa.of_below (Nat.le_refl _) hbel) (fun i _ => ndc_one _ i) (by omega) hbel.size hAa ?_; intro v1 w1 how1 hb1 hgr1 hat1)
                | (at_builtin; refine wpList_app elNode rfl (.tmp 61) (.tmp 62) rfl wc.heap.size _ _ _ rfl how1 Ab 0 cb (ndc (([] : List Nd))) rfl (hRb.of_below (Nat.le_refl _) (hbel.trans hb1)) (fun i _ => ndc_one _ i) (by omega) (hbel.trans hb1).size hAb ?_; intro v2 w2 how2 hb2 hgr2 hat2))
              have hbel1 := hbel.trans hb1
              go_ret
              refine ⟨v2, rfl, ?_, bthen hbo (hbel1.trans hb2)⟩
              rw [hGe.out, ← hend.out]
              refine own_low hbo.size ?_
              rw [hra.out, hrb.out, ← ndv_append, ← ndv_append] at how2
              have e : (acc ++ (x :: la) ++ ([] : List Nd)).length = m0 + na + 0 := by rw [List.length_append, List.length_append, hm0h.out, hnah.out, hnbh.out]
              rw [e]
              exact how2
            | cons y lb =>
              obtain ⟨Aa, ca, rfl, hAa, hca1, hca2, hRa⟩ := hva
              obtain ⟨Ab, cb, rfl, hAb, hcb1, hcb2, hRb⟩ := hvb
              obtain ⟨ba, oa, rfl, hba, ra0, ra1⟩ := rd_at hRa (k := 0) (by simp)
              obtain ⟨bb, ob, rfl, hbb, rb0, rb1⟩ := rd_at hRb (k := 0) (by simp)
              have hNa0 := hide (show Nds wc (.slice (some ⟨ba, oa, none⟩) (x :: la).length ca) (x :: la) from ⟨_, _, rfl, hAa, hca1, hca2, hRa⟩)
              have hNb0 := hide (show Nds wc (.slice (some ⟨bb, ob, none⟩) (y :: lb).length cb) (y :: lb) from ⟨_, _, rfl, hAb, hcb1, hcb2, hRb⟩)
              have hNa := hide (nds_tail hRa hca1 hca2)
              have hNb := hide (nds_tail hRb hcb1 hcb2)
              simp only [Nat.zero_mul, Nat.add_zero, List.getElem_cons_zero] at ra0 ra1 rb0 rb1
              obtain ⟨x1, x2⟩ := x
              obtain ⟨y1, y2⟩ := y
              simp only at ra0 ra1 rb0 rb1
              simp only [List.length_cons] at hca1 hcb1 hlen
              have hmc := hide (mrg_cons (lt := ltS) (x1, x2) (y1, y2) la lb)
              clear hRa hRb hAa hAb
              obtain ⟨m0, hm0⟩ : ∃ m0, acc.length = m0 := ⟨_, rfl⟩
              rw [hm0] at hlen how
              obtain ⟨na, hna⟩ : ∃ na, la.length = na := ⟨_, rfl⟩
              obtain ⟨nb, hnb⟩ : ∃ nb, lb.length = nb := ⟨_, rfl⟩
              rw [hna] at hca1 hlen
              rw [hnb] at hcb1 hlen
              simp only [List.length_cons]
              rw [hna, hnb]
              replace hm0 := hide hm0
              replace hna := hide hna
              replace hnb := hide hnb
              have hz := hbel.size
              have qa0 := (hbel.cell (p := ⟨ba, oa, none⟩) hba).trans ra0
              have qa1 := (hbel.cell (p := ⟨ba, oa + 1, none⟩) hba).trans ra1
              have qb0 := (hbel.cell (p := ⟨bb, ob, none⟩) hbb).trans rb0
              have qb1 := (hbel.cell (p := ⟨bb, ob + 1, none⟩) hbb).trans rb1
              have hba' : ba < wr.heap.size := by omega
              have hbb' : bb < wr.heap.size := by omega
              have hC := fun (e : Later wr.heap.size wr) => hcmpO.out (y1, y2) (x1, x2) e.val (hbel.trans (e.property.mono hz))
              unfold maxLen at hca2 hcb2
              cases hB : ltS (y1, y2) (x1, x2)
              all_goals
                simp only [hB] at hC
                replace hC := hide hC
                go_wp2_with fail
                refine wp_region_later (by kernel_rfl) (by kernel_rfl) ?_
                repeat (go_big_quiet_step (first | (go_at_call 123; exact calls_later (hC.out _)) | exact rfl))
                refine wpQuiet_nil ?_
                rintro _ ⟨e1, rfl⟩
                have bel1 := hbel.trans (e1.property.mono hz)
                have how1 := own_kept how e1.property
                clear how hbel qa0 qa1 qb0 qb1 hz hba' hbb' hC
                generalize e1.val = w1 at *
                clear e1
                have hz := bel1.size
                have qa0 := (bel1.cell (p := ⟨ba, oa, none⟩) hba).trans ra0
                have qa1 := (bel1.cell (p := ⟨ba, oa + 1, none⟩) hba).trans ra1
                have qb0 := (bel1.cell (p := ⟨bb, ob, none⟩) hbb).trans rb0
                have qb1 := (bel1.cell (p := ⟨bb, ob + 1, none⟩) hbb).trans rb1
                have hba' : ba < w1.heap.size := by omega
                have hbb' : bb < w1.heap.size := by omega
                have aga : Value.ownBlock _ ≠ some ba := fun k => by have := (how1.lt ba k).1; omega
                have agb : Value.ownBlock _ ≠ some bb := fun k => by have := (how1.lt bb k).1; omega
              · by_cases hk : ca = 1
                all_goals
                  obtain ⟨i0, hi0, hz0, hz1, hz2⟩ := info_parts elNode.info
                  go_wp2_with fail
                  go_region_held_law (fun w' => w'.cell? ⟨ba, oa, none⟩ = some (.int .i64 x1) ∧ w'.cell? ⟨ba, oa + 1, none⟩ = some (.int .i64 x2))
                    (first
                      | go_keep
                      | (go_split_ands
                         refine ⟨?_, ?_⟩
                         · (rw [hgrow.cell_far _ (by simp; omega) (Ne.symm aga)]; assumption)
                         · (rw [hgrow.cell_far _ (by simp; omega) (Ne.symm aga)]; assumption)))
                    ((refine step_app _ (some 56) (by rfl) (by rfl) _ _ _ (by rfl) wc.heap.size 76 i0 _ 2 16 Tryz.underlying73 hi0 hz0 hz1 hz2 rfl (by omega) _ m0 (ndv acc) (by rfl) ((how1.alloc _).drew)
                        ⟨w1.heap.size, 0, none⟩ 1 1 [.int .i64 x1, .int .i64 x2] (by rfl) (by rfl) (World.news_of_block (cs := #[.int .i64 x1, .int .i64 x2]) (t := 76) (fr := (0, 0)) (heap_alloc_new w1 _)) (by simp [Value.oneCell'])
                        (by omega) (by unfold maxLen; omega) (by omega) (by simp; omega) (w1.heap.size + 1) (by simp) ?_; intro gg cap w2 how2 hgrow hat hlt))
                  all_goals
                    have how3 : w2.ownsRow wc.heap.size 76 2 (.slice (some ⟨gg, 0, none⟩) (m0 + 1) cap) (acc ++ [(x1, x2)]).length (ndv (acc ++ [(x1, x2)])) := by
                      rw [ndv_snoc, List.length_append, hm0.out]; exact how2
                    have hgo2 : Hid ((acc ++ [(x1, x2)]) ++ mrg (ltS) la ((y1, y2) :: lb) = G) := by
                      show _ = _
                      rw [← hgo.out, hmc.out, if_neg (by rw [hB]; simp), List.append_assoc]; rfl
                    have hbel3 : Below wc.heap.size wc w2 := ((bel1.alloc hz _).drew).grown hgrow (by simp; omega) (fun k hk => (how1.lt k hk).1)
                    go_wp2_with fail
                    go_roundw
                    case rel => exact ⟨la, (y1, y2) :: lb, acc ++ [(x1, x2)], (by first | (have q := hNa.out; rw [if_pos hk, hna.out, hk] at q; exact q) | (have q := hNa.out; rw [if_neg hk, hna.out] at q; exact q)), (by have q := hNb0.out; rw [List.length_cons, hnb.out] at q; exact q), how3, (by simp only [List.length_cons, List.length_append, List.length_nil]; rw [hna.out, hnb.out, hm0.out]; omega), hgo2, hbel3⟩
                    case measure => show na + (nb + 1) < na + 1 + (nb + 1); omega
              · by_cases hk : cb = 1
                all_goals
                  obtain ⟨i0, hi0, hz0, hz1, hz2⟩ := info_parts elNode.info
                  go_wp2_with fail
                  go_region_held_law (fun w' => w'.cell? ⟨bb, ob, none⟩ = some (.int .i64 y1) ∧ w'.cell? ⟨bb, ob + 1, none⟩ = some (.int .i64 y2))
                    (first
                      | go_keep
                      | (go_split_ands
                         refine ⟨?_, ?_⟩
                         · (rw [hgrow.cell_far _ (by simp; omega) (Ne.symm agb)]; assumption)
                         · (rw [hgrow.cell_far _ (by simp; omega) (Ne.symm agb)]; assumption)))
                    ((refine step_app _ (some 48) (by rfl) (by rfl) _ _ _ (by rfl) wc.heap.size 76 i0 _ 2 16 Tryz.underlying73 hi0 hz0 hz1 hz2 rfl (by omega) _ m0 (ndv acc) (by rfl) ((how1.alloc _).drew)
                        ⟨w1.heap.size, 0, none⟩ 1 1 [.int .i64 y1, .int .i64 y2] (by rfl) (by rfl) (World.news_of_block (cs := #[.int .i64 y1, .int .i64 y2]) (t := 76) (fr := (0, 0)) (heap_alloc_new w1 _)) (by simp [Value.oneCell'])
                        (by omega) (by unfold maxLen; omega) (by omega) (by simp; omega) (w1.heap.size + 1) (by simp) ?_; intro gg cap w2 how2 hgrow hat hlt))
                  all_goals
                    have how3 : w2.ownsRow wc.heap.size 76 2 (.slice (some ⟨gg, 0, none⟩) (m0 + 1) cap) (acc ++ [(y1, y2)]).length (ndv (acc ++ [(y1, y2)])) := by
                      rw [ndv_snoc, List.length_append, hm0.out]; exact how2
                    have hgo2 : Hid ((acc ++ [(y1, y2)]) ++ mrg (ltS) ((x1, x2) :: la) lb = G) := by
                      show _ = _
                      rw [← hgo.out, hmc.out, if_pos hB, List.append_assoc]; rfl
                    have hbel3 : Below wc.heap.size wc w2 := ((bel1.alloc hz _).drew).grown hgrow (by simp; omega) (fun k hk => (how1.lt k hk).1)
                    go_wp2_with fail
                    go_roundw
                    case rel => exact ⟨(x1, x2) :: la, lb, acc ++ [(y1, y2)], (by have q := hNa0.out; rw [List.length_cons, hna.out] at q; exact q), (by first | (have q := hNb.out; rw [if_pos hk, hnb.out, hk] at q; exact q) | (have q := hNb.out; rw [if_neg hk, hnb.out] at q; exact q)), how3, (by simp only [List.length_cons, List.length_append, List.length_nil]; rw [hna.out, hnb.out, hm0.out]; omega), hgo2, hbel3⟩
                    case measure => show na + 1 + nb < na + 1 + (nb + 1); omega
theorem roll_sorted_o (A : Option Addr) (c : Nat) (l : List Nd) (w : World) (hr : Rd w A l.length 2 (ndc l)) (hA : A = none → l.length = 0) (hc : l.length ≤ c) (hm : c ≤ maxLen) (hl : l.length ≤ 1000000) :
    Calls Tryz.prog 92 #[.slice A l.length c] w fun e w' => ∃ v, e = .returned v ∧ w'.ownsRow w.heap.size 76 2 v (isort ltS l).length (ndv (isort ltS l)) ∧ Below w.heap.size w w' := by
  have h := hide (sorted_O l.length l.length (Nat.le_refl _) A c l w rfl hl hr hA hc hm (cmpS w))
  generalize l.length = n at *
  go_enter Tryz.func92, Tryz.ntmps92
  go_wp2_with fail
  refine h.out.mono ?_
  rintro e w1 ⟨v, rfl, hv, hb1⟩
  go_wp2_with fail
  go_ret
  exact ⟨v, rfl, hv, hb1⟩

end Go.Proofs.YtfjgpjgphdiliaaGreat

/- Commands of lines: the reference's Parse walked. By the prover of this repo. -/
import Derived.Test.YtcpakoobgcdekaaDoorLineL
import Derived.Test.YtcpakoobgcdekaaDoorLineF
namespace Go.Proofs.YtcpakoobgcdekaaDoor
open Go.RowKit

/-- The number of a word, as far as the table has been looked through. -/
def opK (o k : Nat) : Int := if o < k then (o : Int) else 0
theorem opK_1 (o : Nat) : opK o 1 = 0 := by unfold opK; split <;> omega
theorem opK_19 {o : Nat} (h : o < 19) : opK o 19 = (o : Int) := by unfold opK; rw [if_pos h]
theorem opK_hit {o k : Nat} (h : o = k) : opK o (k + 1) = (k : Int) := by unfold opK; rw [if_pos (by omega), h]
theorem opK_on {o k : Nat} (h : ¬ o = k) : opK o (k + 1) = opK o k := by
  unfold opK
  by_cases h1 : o < k
  · rw [if_pos h1, if_pos (by omega)]
  · rw [if_neg h1, if_neg (by omega)]
theorem wordF_in {k : Nat} (h : k < 19) : wordF (k : Int) = wordB k := by unfold wordF; rw [if_pos (by omega), Int.toNat_natCast]
set_option maxRecDepth 100000 in
set_option maxHeartbeats 4000000 in
theorem ref35_parse (s : ByteArray) (w : World) (hs : s.size ≤ 1000000000) :
    Calls Tryd.prog 40 #[.string s] w fun e w' => (∃ op nm ot v, e = .returned (.tuple #[cmdV op nm ot v, .int .i64 (parseF s).2]) ∧ CmdIs w' op nm ot v (parseF s).1) ∧ Below w.heap.size w w' := by
  have hB0 : Hid (Blk (w.alloc (.cells #[.int .i64 0, .string ⟨#[]⟩, .string ⟨#[]⟩, .slice none 0 0] 57)) w.heap.size 57 zc) := Blk.made _ _ _
  have hb0 := hide (balloc0 w (.cells #[.int .i64 0, .string ⟨#[]⟩, .string ⟨#[]⟩, .slice none 0 0] 57))
  obtain ⟨q, hq⟩ : ∃ q, Hid (parseF s = q) := ⟨_, rfl⟩
  rw [hq.out]
  unfold parseF at hq
  by_cases h1 : 4096 < s.size
  · have hres : Hid ((cmd0, 21) = q) := by show _ = _; rw [← hq.out, if_pos h1]
    clear hq
    go_enter Tryd.func40, Tryd.ntmps40
    go_wp2_with fail
    (try simp only [Exit.inBlock, Exit.then])
    refine bodyPost_ret (results_row_tmp rfl _ _ w.heap.size 57 zc (0, 0) _ rfl (by first | exact hB0.out | exact set4 hB0.out _ _ _ _) Tryd.underlying57 rfl (by kernel_rfl)) rfl ?_
    exact parse_zero hres.out (by first | exact hb0.out | exact bel4 hb0.out (Nat.le_refl _) _ _ _ _)
  · rw [if_neg h1] at hq
    have h1' : ¬ (4096 : Int) < s.size := by omega
    by_cases h2 : s.size = 0
    · have hres : Hid ((cmd0, 0) = q) := by show _ = _; rw [← hq.out, if_pos (.inl h2)]
      obtain rfl : s = ⟨#[]⟩ := str_ext (by rw [nil_of_size s (by omega)])
      clear hq h1 h2 h1'
      go_enter Tryd.func40, Tryd.ntmps40
      go_wp2_with fail
      (try simp only [Exit.inBlock, Exit.then])
      refine bodyPost_ret (results_row_tmp rfl _ _ w.heap.size 57 zc (0, 0) _ rfl (by first | exact hB0.out | exact set4 hB0.out _ _ _ _) Tryd.underlying57 rfl (by kernel_rfl)) rfl ?_
      exact parse_zero hres.out (by first | exact hb0.out | exact bel4 hb0.out (Nat.le_refl _) _ _ _ _)
    · have hs0 : 0 < s.size := not_nil h2
      have he := isEmpty_str hs0
      by_cases h3 : s[0].toNat = 35
      · have hb35 : ((s[0].toNat : Int) == 35) = true := by rw [beq_iff_eq]; omega
        have hres : Hid ((cmd0, 0) = q) := by
          show _ = _
          rw [← hq.out, if_pos (.inr (by rw [head_at s hs0, Option.some_inj, ← UInt8.toNat_inj]; exact h3))]
        clear hq h3
        go_enter Tryd.func40, Tryd.ntmps40
        go_wp2_with fail
        (try simp only [Exit.inBlock, Exit.then])
        refine bodyPost_ret (results_row_tmp rfl _ _ w.heap.size 57 zc (0, 0) _ rfl (by first | exact hB0.out | exact set4 hB0.out _ _ _ _) Tryd.underlying57 rfl (by kernel_rfl)) rfl ?_
        exact parse_zero hres.out (by first | exact hb0.out | exact bel4 hb0.out (Nat.le_refl _) _ _ _ _)
      · have hb35 : ((s[0].toNat : Int) == 35) = false := by rw [beq_eq_false_iff_ne]; omega
        rw [if_neg (show ¬ (s.size = 0 ∨ s.data.toList.head? = some 35) from fun h => by
          rcases h with h | h
          · exact h2 h
          · rw [head_at s hs0, Option.some_inj, ← UInt8.toNat_inj] at h; exact h3 h)] at hq
        have hS := hide (fun (W : World) => ref35_split s W (by omega))
        have hwl := words_len s
        have hwz := words_size s
        have hsz : Hid (∀ j, ((wordsOf s).getD j ByteArray.empty).size ≤ 1000000) := fun j => Nat.le_trans (hwz j) (by omega)
        have hL2 : (wordsOf s).length ≤ 1000000 := by omega
        obtain ⟨hL, _⟩ := hwl
        generalize wordsOf s = L at *
        obtain ⟨G, hG⟩ : ∃ G, Hid (readF L = G) := ⟨_, rfl⟩
        rw [hG.out] at hq
        unfold readF at hG
        obtain ⟨n, hn⟩ : ∃ n, Hid (L.length = n) := ⟨_, rfl⟩
        rw [hn.out] at hL hL2 hG
        have hdl : Hid (∀ j, j < n → L.drop j = L.getD j ByteArray.empty :: L.drop (j + 1)) := fun j hj => by
          have hj' : j < L.length := by rw [hn.out]; exact hj
          rw [List.drop_eq_getElem_cons hj']
          simp [hj']
        have hdn : Hid (L.drop n = []) := List.drop_of_length_le (by rw [hn.out]; exact Nat.le_refl _)
        obtain ⟨o, ho⟩ : ∃ o, Hid (opF (L.getD 0 ByteArray.empty) = o) := ⟨_, rfl⟩
        rw [ho.out] at hG
        have ho19 : o < 19 := by rw [← ho.out]; exact opF_lt _
        have hiff : Hid (∀ k : Nat, 1 ≤ k → k < 19 → (wordB k = L.getD 0 ByteArray.empty ↔ o = k)) := fun k a b => by rw [← ho.out]; exact opF_iff a b
        clear h3 hwz
        go_enter Tryd.func40, Tryd.ntmps40
        go_wp2_with fail
        refine (hS.out _).mono ?_
        rintro e w1 ⟨⟨v1, rfl, hv1⟩, hb1⟩
        obtain ⟨A1, c1, rfl, _, k1, k2, hr1⟩ := hv1
        have hB1 := hide (hB0.out.kept hb1)
        have hbw1 := hide (bthen hb0.out hb1)
        have hlt1 : w.heap.size < w1.heap.size := by have := hb1.size; simp at this; omega
        obtain ⟨b, off, rfl, hb, hcA⟩ := hr1 (by rw [hn.out]; omega)
        have hcell : Hid (∀ j, j < n → w1.cell? ⟨b, off + j, none⟩ = some (.string (L.getD j ByteArray.empty))) := fun j hj => hcA j (by rw [hn.out]; omega)
        rw [hn.out] at k1 ⊢
        have hc0 := hcell.out 0 (by omega)
        rw [Nat.add_zero] at hc0
        generalize hw0 : L.getD 0 ByteArray.empty = w0 at *
        replace hw0 := hide hw0
        have hn1 : (0 : Int) < n := by omega
        have hBc0 : Hid (Blk (w1.alloc (.cells #[.int .i64 0, .string ⟨#[]⟩, .string ⟨#[]⟩, .slice none 0 0] 57)) w1.heap.size 57 zc) := Blk.made _ _ _
        have hbc0 := hide (balloc0 w1 (.cells #[.int .i64 0, .string ⟨#[]⟩, .string ⟨#[]⟩, .slice none 0 0] 57))
        have hz0 : w1.heap.size < (w1.alloc (.cells #[.int .i64 0, .string ⟨#[]⟩, .string ⟨#[]⟩, .slice none 0 0] 57)).heap.size := by simp
        clear hcA hb1 hS hB0 hb0 hL
        go_wp2_with fail
        go_loopw [6] (fun x wr => ∃ k : Nat, x = .int .i64 k ∧ 1 ≤ k ∧ k ≤ 19 ∧ Blk wr w1.heap.size 57 #[.int .i64 (opK o k), .string ⟨#[]⟩, .string ⟨#[]⟩, .slice none 0 0] ∧ Below w1.heap.size w1 wr) (fun x _ => 19 - (intOf x).toNat)
        case atStart => exact ⟨1, rfl, Nat.le_refl _, by omega, by rw [opK_1]; exact hBc0.out, hbc0.out⟩
        case round =>
          clear hBc0 hbc0 hz0
          obtain ⟨k, rfl, hk1, hk9, hBc, hbel⟩ := hrel
          have hltc := hBc.lt
          have t0 : wr.cell? ⟨b, off, none⟩ = some (.string w0) := (hbel.cell (p := ⟨b, off, none⟩) hb).trans hc0
          have hbr : b < wr.heap.size := by omega
          replace hbel := hide hbel
          by_cases hk : k < 19
          · have hWd := hide (fun (W : World) => ref35_word (k : Int) W)
            rw [wordF_in hk] at hWd
            have hi := hiff.out k hk1 hk
            have c0 := hBc.cell 0
            have f0 := hBc.free 0
            simp only [List.getElem?_toArray, List.getElem?_cons_zero] at c0
            replace hBc := hide hBc
            by_cases hw : wordB k = w0
            · have hok := hi.1 hw
              rw [hw] at hWd
              replace hok := hide hok
              clear hi hw
              go_upto_region 10 with fail
              go_cut [37] from 28 to 39 (fun p wx => p = .bool true ∧ Below wr.heap.size wr wx)
              case first =>
                go_region_with (go_at_call 50; (with_reducible refine (hWd.out _).mono ?_); rintro e w3 ⟨rfl, hb3⟩; have q1 := (hb3.cell (p := ⟨b, off, none⟩) hbr).trans t0; have q2 : b < w3.heap.size := Nat.lt_of_lt_of_le hbr hb3.size; have hb3 := hide hb3)
                all_goals
                  go_wp2_with fail
                  go_meet
                  exact ⟨by simp, (Below.refl _ _).drew.trans hb3.out⟩
              case rest =>
                obtain ⟨rfl, hb3⟩ := hcut
                have hBc3 := hBc.out.kept hb3
                have d0 := hBc3.cell 0
                have g0 := hBc3.free 0
                simp only [List.getElem?_toArray, List.getElem?_cons_zero] at d0
                have hbel3 := hide (hbel.out.trans (hb3.mono (hbel.out.size)))
                replace hBc3 := hide hBc3
                clear hb3 hBc hbel c0 f0
                go_wp2_with fail
                go_roundw
                case rel => exact ⟨k + 1, by go_num, by omega, by omega, (by rw [opK_hit hok.out]; have h := hBc3.out.set 0 (.int .i64 k); simpa using h), hbel3.out.setCell (p := ⟨w1.heap.size, 0, none⟩) (Nat.le_refl _) _⟩
                case measure => simp [intOf] <;> omega
            · have hok : ¬ o = k := fun h => hw (hi.2 h)
              have hne := str_ne hw
              replace hok := hide hok
              clear hi hw
              go_upto_region 10 with fail
              go_cut [37] from 28 to 39 (fun p wx => p = .bool false ∧ Below wr.heap.size wr wx)
              case first =>
                go_region_with (go_at_call 50; (with_reducible refine (hWd.out _).mono ?_); rintro e w3 ⟨rfl, hb3⟩; have q1 := (hb3.cell (p := ⟨b, off, none⟩) hbr).trans t0; have q2 : b < w3.heap.size := Nat.lt_of_lt_of_le hbr hb3.size; have hb3 := hide hb3)
                all_goals
                  go_wp2_with fail
                  go_meet
                  exact ⟨by first | rfl | simp [hne], (Below.refl _ _).drew.trans hb3.out⟩
              case rest =>
                obtain ⟨rfl, hb3⟩ := hcut
                have hBc3 := hide (hBc.out.kept hb3)
                have hbel3 := hide (hbel.out.trans (hb3.mono (hbel.out.size)))
                clear hb3 hBc hbel c0 f0
                go_wp2_with fail
                go_roundw
                case rel => exact ⟨k + 1, by go_num, by omega, by omega, (by rw [opK_on hok.out]; exact hBc3.out), hbel3.out⟩
                case measure => simp [intOf] <;> omega
          · obtain rfl : k = 19 := by omega
            rw [opK_19 ho19] at hBc
            have c0 := hBc.cell 0
            simp only [List.getElem?_toArray, List.getElem?_cons_zero] at c0
            have hN := hide (fun (W : World) => ref35_needs (o : Int) W ⟨by omega, by omega⟩)
            have hk2 := (need_le (o : Nat)).1
            generalize (needF ((o : Nat) : Int)).1 = k at *
            generalize (needF ((o : Nat) : Int)).2.1 = lo at *
            replace hBc := hide hBc
            have h19 : ¬ ((19 : Int) ≤ 18) := by omega
            clear hiff hw0 t0 hbr
            go_wp2_with fail
            refine (hN.out _).mono ?_
            rintro e w2 ⟨rfl, hb2⟩
            have hBc2 := hBc.out.kept hb2
            have hbel2 := hbel.out.trans (hb2.mono hbel.out.size)
            have hBr2 := hB1.out.kept hbel2
            have d0 := hBc2.cell 0
            have d1 := hBc2.cell 1
            have d2 := hBc2.cell 2
            have d3 := hBc2.cell 3
            have r0 := hBr2.cell 0
            have r1 := hBr2.cell 1
            have r2 := hBr2.cell 2
            have r3 := hBr2.cell 3
            simp only [List.getElem?_toArray, List.getElem?_cons_zero, List.getElem?_cons_succ] at d0 d1 d2 d3 r0 r1 r2 r3
            have g1 := hBc2.free 1
            have g2 := hBc2.free 2
            have f0 := hBr2.free 0
            have f1 := hBr2.free 1
            have f2 := hBr2.free 2
            have f3 := hBr2.free 3
            have hlc := hBc2.lt
            have hz2 := hbel2.size
            have hcl2 : Hid (∀ j, j < n → w2.cell? ⟨b, off + j, none⟩ = some (.string (L.getD j ByteArray.empty))) := fun j hj => (hbel2.cell (p := ⟨b, off + j, none⟩) hb).trans (hcell.out j hj)
            replace hBc2 := hide hBc2
            replace hBr2 := hide hBr2
            replace hbel2 := hide hbel2
            have hcell2 := hcell
            clear hb2 hBc hbel hN c0 hcell
            by_cases h0 : o = 0 ∨ n ≤ k
            · have hres : Hid ((cmd0, 10) = q) := by
                show _ = _
                rw [← hq.out, ← hG.out]
                by_cases e0 : o = 0
                · rw [if_pos e0]
                · rw [if_neg e0, if_pos (h0.resolve_left e0)]
              clear hG hq
              by_cases e0 : o = 0
              case' pos => subst e0
              case' neg => have hb0' : ((o : Int) == 0) = false := by rw [beq_eq_false_iff_ne]; omega
              case' neg => have hnk : (n : Int) ≤ k := by have := h0.resolve_left e0; omega
              all_goals
                clear h0
                go_wp2_with fail
                (try simp only [Exit.inBlock, Exit.then])
                refine bodyPost_ret (results_row_tmp rfl _ _ w.heap.size 57 zc (0, 0) _ rfl (set4 hBr2.out _ _ _ _) Tryd.underlying57 rfl (by kernel_rfl)) rfl ?_
                exact parse_zero hres.out (bel4 (bthen hbw1.out hbel2.out) (Nat.le_refl _) _ _ _ _)
            · have e0 : ¬ o = 0 := fun h => h0 (.inl h)
              have e1 : ¬ n ≤ k := fun h => h0 (.inr h)
              rw [if_neg e0, if_neg e1] at hG
              have hb0' : ((o : Int) == 0) = false := by rw [beq_eq_false_iff_ne]; omega
              have hnk : ¬ (n : Int) ≤ k := by omega
              clear h0 e0
              have hfG : Hid (∀ l, numsGo [] (L.drop (1 + k)) = some l → (if cmdR (o : Nat) (nm1 L k) (nm2 L k) l = true then some (((o : Nat) : Int), nm1 L k, nm2 L k, l) else none) = G) := fun l h => by rw [← hG.out, h]; rfl
              have hfN : Hid (numsGo [] (L.drop (1 + k)) = none → none = G) := fun h => by rw [← hG.out, h]; rfl
              obtain ⟨F, hF⟩ : ∃ F, Hid (numsGo [] (L.drop (1 + k)) = F) := ⟨_, rfl⟩
              rw [hF.out] at hfG hfN
              obtain ⟨x1, hx1⟩ : ∃ x, Hid (nm1 L k = x) := ⟨_, rfl⟩
              obtain ⟨x2, hx2⟩ : ∃ x, Hid (nm2 L k = x) := ⟨_, rfl⟩
              rw [hx1.out, hx2.out] at hfG
              obtain ⟨kk, hkk⟩ : ∃ kk, Hid (1 + k = kk) := ⟨_, rfl⟩
              rw [hkk.out] at hF
              have hkn : kk ≤ n := by rw [← hkk.out]; omega
              have hC1 : Hid (0 < k → w2.cell? ⟨b, off + 1, none⟩ = some (.string (L.getD 1 ByteArray.empty)) ∧ (1 : Int) < n) := fun h => ⟨hcl2.out 1 (by omega), by omega⟩
              have hC2 : Hid (1 < k → w2.cell? ⟨b, off + 2, none⟩ = some (.string (L.getD 2 ByteArray.empty)) ∧ (2 : Int) < n) := fun h => ⟨hcl2.out 2 (by omega), by omega⟩
              obtain ⟨y1, hy1⟩ : ∃ y, Hid (L.getD 1 ByteArray.empty = y) := ⟨_, rfl⟩
              obtain ⟨y2, hy2⟩ : ∃ y, Hid (L.getD 2 ByteArray.empty = y) := ⟨_, rfl⟩
              rw [hy1.out] at hC1
              rw [hy2.out] at hC2
              have hkc : k = 0 ∨ k = 1 ∨ k = 2 := by omega
              have hbr2 : b < w2.heap.size := by omega
              have hBL : Hid (Blk w2 w1.heap.size 57 #[.int .i64 o, .string (nm1 L 0), .string (nm2 L 0), .slice none 0 0]) := hBc2.out
              clear hG e1
              rcases hkc with rfl | rfl | rfl
              case' inl => have hz0 : ¬ n = 0 := by omega
              case' inr.inl => obtain ⟨t1, u1⟩ := hC1.out (by omega)
              case' inr.inr => obtain ⟨t1, u1⟩ := hC1.out (by omega)
              case' inr.inr => obtain ⟨t2, u2⟩ := hC2.out (by omega)
              all_goals
                clear hC1 hC2 hcl2
                go_wp2_with fail
                clear hnk
                (try clear u2 t2)
                (try clear u1 t1)
                go_loopw [9] (fun x wr => ∃ (i j : Nat) (acc : List Int) (va : Value), x = .int .i64 i ∧ Hid (i = kk + j) ∧ i ≤ n ∧ Hid (acc.length = j) ∧ Blk wr w1.heap.size 57 #[.int .i64 o, .string x1, .string x2, va] ∧
                  wr.ownsRow (w1.heap.size + 1) 3 1 va j (iv acc) ∧ Hid (numsGo acc (L.drop i) = F) ∧ Below w1.heap.size w1 wr) (fun x _ => n - (intOf x).toNat)
                case atStart =>
                  first
                    | exact ⟨1, 0, [], .slice none 0 0, rfl, hkk.out.symm ▸ rfl, by have := hkk.out; omega, rfl, by rw [← hx1.out, ← hx2.out]; exact hBL.out, World.ownsRow_nil _ _ _ _, (show numsGo [] (L.drop 1) = F by rw [← hF.out, ← hkk.out]), hbel2.out⟩
                    | exact ⟨2, 0, [], .slice none 0 0, rfl, hkk.out.symm ▸ rfl, by have := hkk.out; omega, rfl, by rw [← hx1.out, ← hx2.out]; have h := hBL.out.set 1 (.string y1); rw [← hy1.out] at h ⊢; exact h, World.ownsRow_nil _ _ _ _, (show numsGo [] (L.drop 2) = F by rw [← hF.out, ← hkk.out]), hbel2.out.setCell (p := ⟨w1.heap.size, 1, none⟩) (Nat.le_refl _) _⟩
                    | exact ⟨3, 0, [], .slice none 0 0, rfl, hkk.out.symm ▸ rfl, by have := hkk.out; omega, rfl, by rw [← hx1.out, ← hx2.out]; have h := (hBL.out.set 1 (.string y1)).set 2 (.string y2); rw [← hy1.out, ← hy2.out] at h ⊢; exact h, World.ownsRow_nil _ _ _ _, (show numsGo [] (L.drop 3) = F by rw [← hF.out, ← hkk.out]), (hbel2.out.setCell (p := ⟨w1.heap.size, 1, none⟩) (Nat.le_refl _) _).setCell (p := ⟨w1.heap.size, 2, none⟩) (Nat.le_refl _) _⟩
                case round =>
                  clear hkn hbr2 hBL hbel2 hBr2 hBc2 hx1 hx2 hF d0 d1 d2 d3 r0 r1 r2 r3 g1 g2 f0 f1 f2 f3 hlc hz2
                  obtain ⟨i, j, acc, va, rfl, hij, hin, hacc, hBc, how, hnum, hbel⟩ := hrel
                  obtain ⟨Aa, ca, rfl, ha1, ha2, ha3⟩ := own_form how
                  have hBr := hB1.out.kept hbel
                  have c0 := hBc.cell 0
                  have c1 := hBc.cell 1
                  have c2 := hBc.cell 2
                  have c3 := hBc.cell 3
                  have r0 := hBr.cell 0
                  have r1 := hBr.cell 1
                  have r2 := hBr.cell 2
                  have r3 := hBr.cell 3
                  simp only [List.getElem?_toArray, List.getElem?_cons_zero, List.getElem?_cons_succ] at c0 c1 c2 c3 r0 r1 r2 r3
                  have f0 := hBr.free 0
                  have f1 := hBr.free 1
                  have f2 := hBr.free 2
                  have f3 := hBr.free 3
                  have hlc := hBc.lt
                  have hlr := hBr.lt
                  have hjn : j ≤ 1000000 := by have := hij.out; omega
                  by_cases hlt : i < n
                  · have hd := hdl.out i hlt
                    have t0 : wr.cell? ⟨b, off + i, none⟩ = some (.string (L.getD i ByteArray.empty)) := (hbel.cell (p := ⟨b, off + i, none⟩) hb).trans (hcell2.out i hlt)
                    have hbr : b < wr.heap.size := Nat.lt_of_lt_of_le hb hbel.size
                    have hts := hsz.out i
                    rw [hd] at hnum
                    clear hd
                    generalize L.getD i ByteArray.empty = t at *
                    have hS := hide (fun W => ref25_number t W (by omega))
                    have hW : Hid (numW t = if (numF t.data.toList).2.2 = true ∧ (numF t.data.toList).2.1 = t.size then some ((numF t.data.toList).1 : Int) else none) := rfl
                    generalize numF t.data.toList = N at *
                    obtain ⟨N1, N2, N3⟩ := N
                    simp only [] at hS hW
                    replace hbel := hide hbel
                    replace hBr := hide hBr
                    replace how := hide how
                    by_cases hok : N3 = true ∧ N2 = t.size
                    · obtain ⟨rfl, rfl⟩ := hok
                      have hnum2 : Hid (numsGo (acc ++ [(N1 : Int)]) (L.drop (i + 1)) = F) := by
                        show _ = _
                        rw [← hnum.out, numsGo_on (by rw [hW.out, if_pos ⟨rfl, rfl⟩])]
                      have hacc2 : Hid ((acc ++ [(N1 : Int)]).length = j + 1) := by show _ = _; rw [List.length_append, hacc.out]; rfl
                      have hij2 : Hid (i + 1 = kk + (j + 1)) := by show _ = _; rw [hij.out]; omega
                      clear hnum hW
                      go_wp2_with (first
                        | (go_at_call 70; refine (hS.out _).mono ?_; rintro e w3 ⟨rfl, rfl⟩)
                        | (at_builtin; refine wpList_app1 elInt rfl (.tmp 98) (.tmp 100) rfl (w1.heap.size + 1) _ _ _ [.int .i64 (N1 : Int)] 3 rfl how.out rfl rfl (one1 rfl) (by omega) (by omega) ?_; intro v3 w3 how3 hb3 hgr3 hat3; obtain ⟨A3, ca3, rfl, _, _, _⟩ := own_form how3; have hBc3 := hBc.below hb3 (by omega); have e3 := hBc3.cell 3; simp only [List.getElem?_toArray, List.getElem?_cons_zero, List.getElem?_cons_succ] at e3; have f3 := hBc3.free 3; have hBc3 := hide hBc3; have how3 := hide how3; have hb3 := hide hb3; clear hgr3 hat3))
                      go_roundw
                      case rel => exact ⟨i + 1, j + 1, acc ++ [(N1 : Int)], _, by go_num, hij2, by omega, hacc2, (by have h := hBc3.out.set 3 (.slice A3 (j + 1) ca3); simpa using h), own_setc (by rw [iv_snoc]; exact how3.out) (by omega) _, hnum2, (hbel.out.trans (hb3.out.mono (by omega))).setCell (p := ⟨w1.heap.size, 3, none⟩) (Nat.le_refl _) _⟩
                      case measure => simp [intOf] <;> omega
                    · have hres : Hid ((cmd0, 10) = q) := by
                        show _ = _
                        rw [← hq.out, ← hfN.out (by rw [← hnum.out, numsGo_bad (by rw [hW.out, if_neg hok])])]
                      clear hnum hW
                      cases N3
                      case' true => have hne2 : ((N2 : Int) == (t.size : Int)) = false := by rw [beq_eq_false_iff_ne]; have : ¬ N2 = t.size := fun h => hok ⟨rfl, h⟩; omega
                      case' true => have hne3 : ((N2 : Int) != (t.size : Int)) = true := by rw [bne, hne2]; rfl
                      all_goals
                        clear hok
                        go_wp2_with (go_at_call 70; refine (hS.out _).mono ?_; rintro e w3 ⟨rfl, rfl⟩)
                        (try simp only [Exit.inBlock, Exit.then])
                        refine bodyPost_ret (results_row_tmp rfl _ _ w.heap.size 57 zc (0, 0) _ rfl (set4 hBr.out _ _ _ _) Tryd.underlying57 rfl (by kernel_rfl)) rfl ?_
                        exact parse_zero hres.out (bel4 (bthen hbw1.out hbel.out) (Nat.le_refl _) _ _ _ _)
                  · obtain rfl : i = n := by omega
                    have hFe : F = some acc := by rw [← hnum.out, hdn.out, numsGo_nil]
                    have hG2 := hide (hfG.out acc hFe)
                    have hI1 := hide (own_its hacc.out how)
                    have hlen : acc.length ≤ 1000000000 := by rw [hacc.out]; omega
                    have hR := hide (ref35_right o x1 x2 acc (.slice Aa j ca) wr hI1.out hlen)
                    generalize cmdR o x1 x2 acc = R at *
                    replace hbel := hide hbel
                    replace hBr := hide hBr
                    replace hBc := hide hBc
                    replace how := hide how
                    clear hnum hFe hfG hfN
                    go_wp2_with fail
                    refine hR.out.mono ?_
                    rintro e w4 ⟨rfl, hb4⟩
                    have hBr4 := hBr.out.kept hb4
                    have hBc4 := hBc.out.kept hb4
                    have how4 := hide (own_kept1 how.out hb4)
                    have hbel4 := hide (bthen hbw1.out (hbel.out.trans (hb4.mono hbel.out.size)))
                    have s0 := hBr4.cell 0
                    have s1 := hBr4.cell 1
                    have s2 := hBr4.cell 2
                    have s3 := hBr4.cell 3
                    have d0 := hBc4.cell 0
                    have d1 := hBc4.cell 1
                    have d2 := hBc4.cell 2
                    have d3 := hBc4.cell 3
                    simp only [List.getElem?_toArray, List.getElem?_cons_zero, List.getElem?_cons_succ] at s0 s1 s2 s3 d0 d1 d2 d3
                    have h0 := hBr4.free 0
                    have h1 := hBr4.free 1
                    have h2 := hBr4.free 2
                    have h3 := hBr4.free 3
                    replace hBr4 := hide hBr4
                    clear hBc4 hb4 hR how
                    cases R
                    · have hres : Hid ((cmd0, 10) = q) := by show _ = _; rw [← hq.out, ← hG2.out]; rfl
                      clear hq hG2
                      go_wp2_with fail
                      (try simp only [Exit.inBlock, Exit.then])
                      refine bodyPost_ret (results_row_tmp rfl _ _ w.heap.size 57 zc (0, 0) _ rfl (set4 hBr4.out _ _ _ _) Tryd.underlying57 rfl (by kernel_rfl)) rfl ?_
                      exact parse_zero hres.out (bel4 hbel4.out (Nat.le_refl _) _ _ _ _)
                    · have hres : Hid (((((o : Nat) : Int), x1, x2, acc), 0) = q) := by show _ = _; rw [← hq.out, ← hG2.out]; rfl
                      clear hq hG2
                      go_wp2_with fail
                      (try simp only [Exit.inBlock, Exit.then])
                      refine bodyPost_ret (results_row_tmp rfl _ _ w.heap.size 57 #[.int .i64 o, .string x1, .string x2, .slice Aa j ca] (0, 0) _ rfl (set4 hBr4.out _ _ _ _) Tryd.underlying57 rfl (by kernel_rfl)) rfl ?_
                      refine ⟨⟨o, x1, x2, _, by rw [← hres.out]; rfl, ?_⟩, bel4 hbel4.out (Nat.le_refl _) _ _ _ _⟩
                      rw [← hres.out]
                      exact ⟨rfl, rfl, rfl, own_its hacc.out (own_setc (own_setc (own_setc (own_setc how4.out (by omega) _) (by omega) _) (by omega) _) (by omega) _)⟩
end Go.Proofs.YtcpakoobgcdekaaDoor

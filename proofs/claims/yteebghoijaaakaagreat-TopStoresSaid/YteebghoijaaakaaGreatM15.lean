/- Part 15 of the proof: texts joined by this repo's tools/merge2.py (Rank). By the prover of this repo. -/
import Derived.Test.YteebghoijaaakaaGreatM14
set_option linter.unusedVariables false
set_option linter.unusedSimpArgs false
/- What weighs up to a number: the walks of rank.*. By the prover of this repo. -/
namespace Go.Proofs.YteebghoijaaakaaGreat
open Go.RowKit
open TwigM RollM StoM

theorem own_dn {w : World} {b c n size : Nat} {e : TypeId} {v : Value} {xs : List Value} (hbc : c ≤ b) (h : w.ownsRow b e size v n xs) : w.ownsRow c e size v n xs := by
  obtain ⟨h1, h2⟩ := h
  refine ⟨h1, ?_⟩
  rcases h2 with h2 | ⟨g, cap, cur, e1, hb, hr⟩
  · exact .inl h2
  · exact .inr ⟨g, cap, cur, e1, Nat.le_trans hbc hb, hr⟩
theorem sumM_app (g : Int → Int) : ∀ a b : List Nd, sumM g (a ++ b) = sumM g a + sumM g b
  | [], b => by simp [sumM]
  | p :: a, b => by
    rw [List.cons_append, sumM, sumM, sumM_app g a b]
    omega
theorem sumM_next (g : Int → Int) (l : List Nd) (i : Nat) (hi : i < l.length) : sumM g (l.take (i + 1)) = sumM g (l.take i) + l[i].2 * g l[i].1 := by
  rw [List.take_succ_eq_append_getElem hi, sumM_app]
  simp [sumM]
theorem sumM_range {g : Int → Int} {l : List Nd} (hc : Canon l) (hg : ∀ x, 0 ≤ g x ∧ g x ≤ 1) (i : Nat) : 0 ≤ sumM g (l.take i) ∧ sumM g (l.take i) ≤ sumL l := by
  have hct : Cnt (l.take i) := fun p hp => Int.le_of_lt (hc.cnt p (List.mem_of_mem_take hp))
  refine ⟨sumM_nonneg hct fun p _ => (hg p.1).1, ?_⟩
  have h1 := sumM_le (f := g) (g := fun _ => 1) hct fun p _ => (hg p.1).2
  rw [← sumL_M] at h1
  have := sum_take hc i
  omega
theorem low_told (b : Nat) (lo hi x : Int) (w : World) (hb : Blk w b 3 #[.int .i64 x]) : Calls Tryz.prog 36 #[.int .i64 lo, .int .i64 hi, .pointer (some ⟨b, 0, none⟩)] w fun e w' => e = .returned (.bool (decide (hi ≤ x))) ∧ w = w' := by
  have c0 := hb.cell 0
  clear hb
  go_enter Tryz.func36, Tryz.ntmps36
  go_wp2_with fail
  go_ret
  exact ⟨rfl, rfl⟩
set_option maxRecDepth 100000 in
set_option maxHeartbeats 2000000 in
theorem low_weigh (d p b : Nat) (K kd L x : Int) (l : List Nd) (F : Nat → Prop) (w : World) (h : DigAt w d p K kd L l F) (hb : Blk w b 3 #[.int .i64 x]) :
    Calls Tryz.prog 35 #[.pointer (some ⟨d, 0, none⟩), .func (.func 36) #[] #[.pointer (some ⟨b, 0, none⟩)]] w fun e w' => e = .returned (.int .i64 (lowS L x l)) ∧ Below w.heap.size w w' := by
  obtain ⟨hL1, hL2⟩ := h.pool.uni
  have hC := hide (fun W (hW : Below w.heap.size w W) => digest_conf d p K kd L l F W (h.kept hW))
  have hN := hide (fun W (hW : Below w.heap.size w W) => digest_nodes d p K kd L l F W (h.kept hW))
  have hE := hide (fun (id : Int) (W : World) (h1 : 1 ≤ id) (h2 : id < 2 * pw L) => ends_yes L id W hL1 hL2 h1 h2)
  have hTd := hide (fun (lo hi : Int) (W : World) (hW : Below w.heap.size w W) => low_told b lo hi x W (hb.kept hW))
  have hnx := hide (fun i hi => sumM_next (fun id => if hiF L id ≤ x then 1 else 0) l i hi)
  have hrg := hide (fun i => sumM_range (g := fun id => if hiF L id ≤ x then 1 else 0) h.pool.canon (fun y => by split <;> omega) i)
  have hs := h.pool.sum
  have hinu := hide h.pool.inU
  have hall := hide h.pool.allU
  have hll := h.pool.len
  have hfin : Hid (sumM (fun id => if hiF L id ≤ x then 1 else 0) (l.take l.length) = lowS L x l) := by show _ = _; rw [List.take_length]; rfl
  clear h hb
  obtain ⟨R, hR⟩ : ∃ R, lowS L x l = R := ⟨_, rfl⟩
  rw [hR] at hfin ⊢
  clear hR
  obtain ⟨n, hn⟩ : ∃ n, Hid (l.length = n) := ⟨_, rfl⟩
  rw [hn.out] at hfin hll
  unfold conf at hC
  have hfld : ∀ W : World, (Instr.field 42 (.agg #[.int .i64 L, .int .i64 K, .int .i64 kd]) 0).run Tryz.prog W = .ok (.int .i64 L) W := fun _ => by kernel_rfl
  go_enter Tryz.func35, Tryz.ntmps35
  go_wp2_with fail
  refine Calls.mono (hC.out _ (Below.refl _ _)) ?_
  rintro e w1 ⟨rfl, hb1⟩
  have hb1 := hide hb1
  go_wp2_with fail
  refine Calls.mono (hN.out _ hb1.out) ?_
  rintro e w2 ⟨v, rfl, hv, hb2⟩
  rw [hn.out] at hv
  obtain ⟨A, c, rfl, hA1, hA2, hA3⟩ := own_form hv
  have hbs1 := hb1.out.size
  have hv := hide (own_dn hbs1 hv)
  have hb2 := hide (hb1.out.trans (hb2.mono hbs1))
  go_wp2_with fail
  go_loopw [5, 18] (fun sv kv wr => ∃ (i : Nat) (s : Int), sv = .int .i64 s ∧ kv = .int .i64 i ∧ i ≤ n ∧ Hid (s = sumM (fun id => if hiF L id ≤ x then 1 else 0) (l.take i)) ∧ 0 ≤ s ∧ s ≤ 72057594037927935 ∧ Hid (wr.ownsRow w.heap.size 67 2 (.slice A n c) n (ndv l)) ∧ Hid (Below w.heap.size w wr)) (fun _ kv _ => n - (intOf kv).toNat)
  case atStart => exact ⟨0, 0, rfl, rfl, by omega, by show _ = _; rw [List.take_zero]; rfl, by omega, by omega, hv, hb2⟩
  case round =>
    obtain ⟨i, s, rfl, rfl, hi, hse, hs0, hs1, hrow, hbel⟩ := hrel
    clear hv hb2
    by_cases hlt : i < n
    · have hil : i < l.length := by rw [hn.out]; exact hlt
      have hro := hrow.out
      rw [← hn.out] at hro
      obtain ⟨g, cap, e1, hg, cx, cn⟩ := nd_at hro hil
      injection e1 with e1 e2 e3
      subst e1 e3
      have hid := hinu.out _ (List.getElem_mem hil)
      have hall1 := hall.out _ (List.getElem_mem hil)
      have hn1 := hnx.out i hil
      have hr1 := hrg.out (i + 1)
      rw [hn1, ← hse.out] at hr1
      rw [← hse.out] at hn1
      clear hro
      generalize l[i] = q at *
      obtain ⟨id, cnt⟩ := q
      simp only at cx cn hid hn1 hr1 hall1
      have hE1 := hide (fun W => hE.out id W hid.1 hid.2)
      have hbs := hbel.out.size
      have hb3 := hide (hbel.out.alloc hbs (.cells #[.int .i64 id, .int .i64 cnt] 67))
      have hrow3 := hide (hrow.out.alloc (.cells #[.int .i64 id, .int .i64 cnt] 67))
      by_cases hq : hiF L id ≤ x
      · have hT1 := hide (fun W (hW : Below w.heap.size w W) => hTd.out (loF L id) (loF L id + pw (L - lg id) - 1) W hW)
        rw [decide_eq_true (show (loF L id + pw (L - lg id) - 1) ≤ x from hq)] at hT1
        rw [if_pos hq] at hn1 hr1
        have hn1 := hide hn1
        go_wp2_with fail
        refine Calls.mono (hE1.out _) ?_
        rintro e w4 ⟨rfl, m, rfl⟩
        have hb4 : Hid (Below w.heap.size w ((wr.alloc (.cells #[.int .i64 id, .int .i64 cnt] 67)).drewN m)) := ⟨hb3.out.os, hb3.out.tape, hb3.out.output, hb3.out.size, hb3.out.block⟩
        have hrow4 : Hid (((wr.alloc (.cells #[.int .i64 id, .int .i64 cnt] 67)).drewN m).ownsRow w.heap.size 67 2 (.slice (some ⟨g, 0, none⟩) n c) n (ndv l)) := hrow3.out
        go_wp2_with (go_at_call 36; refine (hT1.out _ hb4.out).mono ?_; rintro e w5 ⟨rfl, rfl⟩)
        go_roundw
        case rel => exact ⟨i + 1, s + cnt, rfl, by go_num, by omega, by show _ = _; rw [hn1.out]; omega, by omega, by omega, hrow4, hb4⟩
        case measure => simp [intOf]; omega
      · have hT1 := hide (fun W (hW : Below w.heap.size w W) => hTd.out (loF L id) (loF L id + pw (L - lg id) - 1) W hW)
        rw [decide_eq_false (show ¬ (loF L id + pw (L - lg id) - 1) ≤ x from hq)] at hT1
        rw [if_neg hq] at hn1 hr1
        have hn1 := hide hn1
        go_wp2_with fail
        refine Calls.mono (hE1.out _) ?_
        rintro e w4 ⟨rfl, m, rfl⟩
        have hb4 : Hid (Below w.heap.size w ((wr.alloc (.cells #[.int .i64 id, .int .i64 cnt] 67)).drewN m)) := ⟨hb3.out.os, hb3.out.tape, hb3.out.output, hb3.out.size, hb3.out.block⟩
        have hrow4 : Hid (((wr.alloc (.cells #[.int .i64 id, .int .i64 cnt] 67)).drewN m).ownsRow w.heap.size 67 2 (.slice (some ⟨g, 0, none⟩) n c) n (ndv l)) := hrow3.out
        go_wp2_with (go_at_call 36; refine (hT1.out _ hb4.out).mono ?_; rintro e w5 ⟨rfl, rfl⟩)
        go_roundw
        case rel => exact ⟨i + 1, s, rfl, by go_num, by omega, by show _ = _; rw [hn1.out]; omega, hs0, hs1, hrow4, hb4⟩
        case measure => simp [intOf]; omega
    · obtain rfl : i = n := by omega
      have hsR : s = R := hse.out.trans hfin.out
      subst hsR
      go_wp2_with fail
      go_ret
      exact ⟨rfl, hbel.out⟩
theorem rank_low (d p : Nat) (K kd L x : Int) (l : List Nd) (F : Nat → Prop) (w : World) (h : DigAt w d p K kd L l F) :
    Calls Tryz.prog 11 #[.pointer (some ⟨d, 0, none⟩), .int .i64 x] w fun e w' => e = .returned (.int .i64 (lowS L x l)) ∧ Below w.heap.size w w' := by
  have hb0 := balloc0 w (.cells #[.int .i64 x] 3)
  have hW := hide (low_weigh d p w.heap.size K kd L x l F (w.alloc (.cells #[.int .i64 x] 3)) (h.kept hb0) (Blk.made w _ _))
  clear h
  go_enter Tryz.func11, Tryz.ntmps11
  go_wp2_with fail
  refine Calls.mono hW.out ?_
  rintro e w1 ⟨rfl, hb1⟩
  have hb := hide (hb0.trans (hb1.mono (by simp)))
  clear hb1
  go_wp2_with fail
  go_ret
  exact ⟨rfl, hb.out⟩
theorem high_told (b : Nat) (lo hi x : Int) (w : World) (hb : Blk w b 3 #[.int .i64 x]) : Calls Tryz.prog 37 #[.int .i64 lo, .int .i64 hi, .pointer (some ⟨b, 0, none⟩)] w fun e w' => e = .returned (.bool (decide (lo ≤ x))) ∧ w = w' := by
  have c0 := hb.cell 0
  clear hb
  go_enter Tryz.func37, Tryz.ntmps37
  go_wp2_with fail
  go_ret
  exact ⟨rfl, rfl⟩
set_option maxRecDepth 100000 in
set_option maxHeartbeats 2000000 in
theorem high_weigh (d p b : Nat) (K kd L x : Int) (l : List Nd) (F : Nat → Prop) (w : World) (h : DigAt w d p K kd L l F) (hb : Blk w b 3 #[.int .i64 x]) :
    Calls Tryz.prog 35 #[.pointer (some ⟨d, 0, none⟩), .func (.func 37) #[] #[.pointer (some ⟨b, 0, none⟩)]] w fun e w' => e = .returned (.int .i64 (highS L x l)) ∧ Below w.heap.size w w' := by
  obtain ⟨hL1, hL2⟩ := h.pool.uni
  have hC := hide (fun W (hW : Below w.heap.size w W) => digest_conf d p K kd L l F W (h.kept hW))
  have hN := hide (fun W (hW : Below w.heap.size w W) => digest_nodes d p K kd L l F W (h.kept hW))
  have hE := hide (fun (id : Int) (W : World) (h1 : 1 ≤ id) (h2 : id < 2 * pw L) => ends_yes L id W hL1 hL2 h1 h2)
  have hTd := hide (fun (lo hi : Int) (W : World) (hW : Below w.heap.size w W) => high_told b lo hi x W (hb.kept hW))
  have hnx := hide (fun i hi => sumM_next (fun id => if loF L id ≤ x then 1 else 0) l i hi)
  have hrg := hide (fun i => sumM_range (g := fun id => if loF L id ≤ x then 1 else 0) h.pool.canon (fun y => by split <;> omega) i)
  have hs := h.pool.sum
  have hinu := hide h.pool.inU
  have hall := hide h.pool.allU
  have hll := h.pool.len
  have hfin : Hid (sumM (fun id => if loF L id ≤ x then 1 else 0) (l.take l.length) = highS L x l) := by show _ = _; rw [List.take_length]; rfl
  clear h hb
  obtain ⟨R, hR⟩ : ∃ R, highS L x l = R := ⟨_, rfl⟩
  rw [hR] at hfin ⊢
  clear hR
  obtain ⟨n, hn⟩ : ∃ n, Hid (l.length = n) := ⟨_, rfl⟩
  rw [hn.out] at hfin hll
  unfold conf at hC
  have hfld : ∀ W : World, (Instr.field 42 (.agg #[.int .i64 L, .int .i64 K, .int .i64 kd]) 0).run Tryz.prog W = .ok (.int .i64 L) W := fun _ => by kernel_rfl
  go_enter Tryz.func35, Tryz.ntmps35
  go_wp2_with fail
  refine Calls.mono (hC.out _ (Below.refl _ _)) ?_
  rintro e w1 ⟨rfl, hb1⟩
  have hb1 := hide hb1
  go_wp2_with fail
  refine Calls.mono (hN.out _ hb1.out) ?_
  rintro e w2 ⟨v, rfl, hv, hb2⟩
  rw [hn.out] at hv
  obtain ⟨A, c, rfl, hA1, hA2, hA3⟩ := own_form hv
  have hbs1 := hb1.out.size
  have hv := hide (own_dn hbs1 hv)
  have hb2 := hide (hb1.out.trans (hb2.mono hbs1))
  go_wp2_with fail
  go_loopw [5, 18] (fun sv kv wr => ∃ (i : Nat) (s : Int), sv = .int .i64 s ∧ kv = .int .i64 i ∧ i ≤ n ∧ Hid (s = sumM (fun id => if loF L id ≤ x then 1 else 0) (l.take i)) ∧ 0 ≤ s ∧ s ≤ 72057594037927935 ∧ Hid (wr.ownsRow w.heap.size 67 2 (.slice A n c) n (ndv l)) ∧ Hid (Below w.heap.size w wr)) (fun _ kv _ => n - (intOf kv).toNat)
  case atStart => exact ⟨0, 0, rfl, rfl, by omega, by show _ = _; rw [List.take_zero]; rfl, by omega, by omega, hv, hb2⟩
  case round =>
    obtain ⟨i, s, rfl, rfl, hi, hse, hs0, hs1, hrow, hbel⟩ := hrel
    clear hv hb2
    by_cases hlt : i < n
    · have hil : i < l.length := by rw [hn.out]; exact hlt
      have hro := hrow.out
      rw [← hn.out] at hro
      obtain ⟨g, cap, e1, hg, cx, cn⟩ := nd_at hro hil
      injection e1 with e1 e2 e3
      subst e1 e3
      have hid := hinu.out _ (List.getElem_mem hil)
      have hall1 := hall.out _ (List.getElem_mem hil)
      have hn1 := hnx.out i hil
      have hr1 := hrg.out (i + 1)
      rw [hn1, ← hse.out] at hr1
      rw [← hse.out] at hn1
      clear hro
      generalize l[i] = q at *
      obtain ⟨id, cnt⟩ := q
      simp only at cx cn hid hn1 hr1 hall1
      have hE1 := hide (fun W => hE.out id W hid.1 hid.2)
      have hbs := hbel.out.size
      have hb3 := hide (hbel.out.alloc hbs (.cells #[.int .i64 id, .int .i64 cnt] 67))
      have hrow3 := hide (hrow.out.alloc (.cells #[.int .i64 id, .int .i64 cnt] 67))
      by_cases hq : loF L id ≤ x
      · have hT1 := hide (fun W (hW : Below w.heap.size w W) => hTd.out (loF L id) (loF L id + pw (L - lg id) - 1) W hW)
        rw [decide_eq_true (show loF L id ≤ x from hq)] at hT1
        rw [if_pos hq] at hn1 hr1
        have hn1 := hide hn1
        go_wp2_with fail
        refine Calls.mono (hE1.out _) ?_
        rintro e w4 ⟨rfl, m, rfl⟩
        have hb4 : Hid (Below w.heap.size w ((wr.alloc (.cells #[.int .i64 id, .int .i64 cnt] 67)).drewN m)) := ⟨hb3.out.os, hb3.out.tape, hb3.out.output, hb3.out.size, hb3.out.block⟩
        have hrow4 : Hid (((wr.alloc (.cells #[.int .i64 id, .int .i64 cnt] 67)).drewN m).ownsRow w.heap.size 67 2 (.slice (some ⟨g, 0, none⟩) n c) n (ndv l)) := hrow3.out
        go_wp2_with (go_at_call 37; refine (hT1.out _ hb4.out).mono ?_; rintro e w5 ⟨rfl, rfl⟩)
        go_roundw
        case rel => exact ⟨i + 1, s + cnt, rfl, by go_num, by omega, by show _ = _; rw [hn1.out]; omega, by omega, by omega, hrow4, hb4⟩
        case measure => simp [intOf]; omega
      · have hT1 := hide (fun W (hW : Below w.heap.size w W) => hTd.out (loF L id) (loF L id + pw (L - lg id) - 1) W hW)
        rw [decide_eq_false (show ¬ loF L id ≤ x from hq)] at hT1
        rw [if_neg hq] at hn1 hr1
        have hn1 := hide hn1
        go_wp2_with fail
        refine Calls.mono (hE1.out _) ?_
        rintro e w4 ⟨rfl, m, rfl⟩
        have hb4 : Hid (Below w.heap.size w ((wr.alloc (.cells #[.int .i64 id, .int .i64 cnt] 67)).drewN m)) := ⟨hb3.out.os, hb3.out.tape, hb3.out.output, hb3.out.size, hb3.out.block⟩
        have hrow4 : Hid (((wr.alloc (.cells #[.int .i64 id, .int .i64 cnt] 67)).drewN m).ownsRow w.heap.size 67 2 (.slice (some ⟨g, 0, none⟩) n c) n (ndv l)) := hrow3.out
        go_wp2_with (go_at_call 37; refine (hT1.out _ hb4.out).mono ?_; rintro e w5 ⟨rfl, rfl⟩)
        go_roundw
        case rel => exact ⟨i + 1, s, rfl, by go_num, by omega, by show _ = _; rw [hn1.out]; omega, hs0, hs1, hrow4, hb4⟩
        case measure => simp [intOf]; omega
    · obtain rfl : i = n := by omega
      have hsR : s = R := hse.out.trans hfin.out
      subst hsR
      go_wp2_with fail
      go_ret
      exact ⟨rfl, hbel.out⟩
theorem rank_high (d p : Nat) (K kd L x : Int) (l : List Nd) (F : Nat → Prop) (w : World) (h : DigAt w d p K kd L l F) :
    Calls Tryz.prog 12 #[.pointer (some ⟨d, 0, none⟩), .int .i64 x] w fun e w' => e = .returned (.int .i64 (highS L x l)) ∧ Below w.heap.size w w' := by
  have hb0 := balloc0 w (.cells #[.int .i64 x] 3)
  have hW := hide (high_weigh d p w.heap.size K kd L x l F (w.alloc (.cells #[.int .i64 x] 3)) (h.kept hb0) (Blk.made w _ _))
  clear h
  go_enter Tryz.func12, Tryz.ntmps12
  go_wp2_with fail
  refine Calls.mono hW.out ?_
  rintro e w1 ⟨rfl, hb1⟩
  have hb := hide (hb0.trans (hb1.mono (by simp)))
  clear hb1
  go_wp2_with fail
  go_ret
  exact ⟨rfl, hb.out⟩
end Go.Proofs.YteebghoijaaakaaGreat

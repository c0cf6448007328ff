/- Part 11 of the proof: texts joined by this repo's tools/merge2.py (Srt). By the prover of this repo. -/
import Derived.Test.YteebghoijaaakaaGreatM9
set_option linter.unusedVariables false
set_option linter.unusedSimpArgs false
/- The walks of layer 6, once more: a list in order, in memory that the call has made. By the prover of this repo. -/
namespace Go.Proofs.YteebghoijaaakaaGreat
open Go.RowKit
open TwigM RollM

theorem own_low {w : World} {b c : Nat} {e : TypeId} {size : Nat} {v : Value} {n : Nat} {xs : List Value} (hbc : c ≤ b) (h : w.ownsRow b e size v n xs) : w.ownsRow c e size v n xs := by
  refine ⟨h.1, ?_⟩
  rcases h.2 with h2 | ⟨g, cap, cur, rfl, hb, rest⟩
  · exact .inl h2
  · exact .inr ⟨g, cap, cur, rfl, Nat.le_trans hbc hb, rest⟩
set_option maxRecDepth 100000 in
theorem clone_o (A : Option Addr) (c : Nat) (l : List Nd) (w : World) (hr : Rd w A l.length 2 (ndc l)) (hA : A = none → l.length = 0) (hl : l.length ≤ 1000000) :
    Calls Tryz.prog 166 #[.slice A l.length c] w fun e w' => ∃ v, e = .returned v ∧ w'.ownsRow w.heap.size 67 2 v l.length (ndv l) ∧ Below w.heap.size w w' := by
  cases A with
  | none =>
    have h0 := hA rfl
    have hn : l = [] := List.eq_nil_of_length_eq_zero h0
    subst hn
    have he := fun V => Lib.run_eql_slice_nil (P := Tryz.prog) V 64 67 none 0 c 0 0 Tryz.underlying64
    go_enter Tryz.func166, Tryz.ntmps166
    go_wp2_with fail
    go_ret
    exact ⟨_, rfl, World.ownsRow_nil _ _ _ _, Below.refl _ _⟩
  | some ad =>
    have hlen : Hid (l.length = l.length) := rfl
    have hrh := hide hr
    have hrange := hide (ndv_range l)
    have hone := hide (ndc_one l)
    obtain ⟨n, hn⟩ : ∃ n, l.length = n := ⟨_, rfl⟩
    rw [hn] at hl hrange
    have hrn : Hid (Rd w (some ad) n 2 (ndc l)) := by have := hr; rwa [hn] at this
    have hnh := hide hn
    rw [hn]
    clear hr hA hn hlen hrh
    have he := fun V => Lib.run_eql_slice_nil (P := Tryz.prog) V 64 67 (some ad) n c 0 0 Tryz.underlying64
    go_enter Tryz.func166, Tryz.ntmps166
    go_wp2_with (at_builtin; refine wpList_app elNode rfl (.tmp 5) (.tmp 6) rfl w.heap.size _ 0 [] rfl (World.ownsRow_lit w #[] 0 (Nat.le_refl _) (by unfold maxLen; omega) rfl) (some ad) n c (ndc l) rfl (hrn.out.alloc _) (fun i _ => hone.out i) (by omega) (by simp) (fun k => by cases k) ?_; intro v1 w1 how1 hb1 hgr1 hat1)
    go_ret
    have how2 : w1.ownsRow w.heap.size 67 2 v1 l.length (ndv l) := by
      rw [hrange.out, Nat.zero_add, List.nil_append] at how1
      rw [hnh.out]
      exact how1
    exact ⟨_, rfl, by rw [← hnh.out]; exact how2, (balloc0 _ _).trans hb1⟩
set_option maxRecDepth 100000 in
set_option maxHeartbeats 8000000 in
theorem sorted_O  : ∀ (k n : Nat), n ≤ k → ∀ (A : Option Addr) (c : Nat) (l : List Nd) (w : World), Hid (l.length = n) → n ≤ 1000000 → Rd w A n 2 (ndc l) → (A = none → n = 0) → n ≤ c → c ≤ maxLen → CmpS  w →
    Calls Tryz.prog 182 #[.slice A n c, .func (.func 183) #[] #[]] w fun e w' => ∃ v, e = .returned v ∧ w'.ownsRow w.heap.size 67 2 v (isort (ltS) l).length (ndv (isort (ltS) l)) ∧ Below w.heap.size w w' := by
  intro k
  induction k with
  | zero =>
    intro n hk A c l w hl hn hr hA hnc hc hcmp
    obtain rfl : n = 0 := by omega
    have hcl := clone_o A c l w (by rw [hl.out]; exact hr) (by rw [hl.out]; exact hA) (by rw [hl.out]; omega)
    rw [hl.out] at hcl
    have hs : Hid (isort (ltS) l = l) := isort_short (by rw [hl.out]; omega)
    replace hcl := hide hcl
    clear hr hA hcmp
    go_enter Tryz.func182, Tryz.ntmps182
    go_wp2_with fail
    refine hcl.out.mono ?_
    rintro e w1 ⟨v, rfl, hv, hb1⟩
    go_wp2_with fail
    go_ret
    exact ⟨v, rfl, by rw [hs.out, hl.out]; exact hv, hb1⟩
  | succ k ih =>
    intro n hk A c l w hl hn hr hA hnc hc hcmp
    by_cases h2 : n < 2
    · have hcl := clone_o A c l w (by rw [hl.out]; exact hr) (by rw [hl.out]; exact hA) (by rw [hl.out]; omega)
      rw [hl.out] at hcl
      have hs : Hid (isort (ltS) l = l) := isort_short (by rw [hl.out]; omega)
      replace hcl := hide hcl
      clear hr hA hcmp ih
      go_enter Tryz.func182, Tryz.ntmps182
      go_wp2_with fail
      refine hcl.out.mono ?_
      rintro e w1 ⟨v, rfl, hv, hb1⟩
      go_wp2_with fail
      go_ret
      exact ⟨v, rfl, by rw [hs.out, hl.out]; exact hv, hb1⟩
    · obtain ⟨b, off, rfl, hb, hcell⟩ := hr (by omega)
      obtain ⟨mid, hmid⟩ : ∃ mid : Nat, (n : Int) / 2 = (mid : Int) := ⟨n / 2, by omega⟩
      have hm1 : 1 ≤ mid := by omega
      have hm2 : mid < n := by omega
      have hl1 : Hid ((l.take mid).length = mid) := by show _ = _; rw [List.length_take, hl.out]; omega
      have hl2 : Hid ((l.drop mid).length = n - mid) := by show _ = _; rw [List.length_drop, hl.out]
      have hr1 : Rd w (some ⟨b, off, none⟩) mid 2 (ndc (l.take mid)) := (hr.less (by omega)).congr fun i hi => by rw [ndc_take l mid i hi]
      have hr2 : Rd w (some ⟨b, off + mid * 2, none⟩) (n - mid) 2 (ndc (l.drop mid)) := fun _ => ⟨b, off + mid * 2, rfl, hb, fun i hi => by rw [Nat.add_assoc, hcell (mid * 2 + i) (by omega), ndc_drop]⟩
      have ih1 := hide (fun W' (hW : Below w.heap.size w W') => ih mid (by omega) (some ⟨b, off, none⟩) c (l.take mid) W' hl1 (by omega) (hr1.kept hW) (fun h => by cases h) (by omega) hc (hcmp.kept hW))
      have ih2 := hide (fun W' (hW : Below w.heap.size w W') => ih (n - mid) (by omega) (some ⟨b, off + mid * 2, none⟩) (c - mid) (l.drop mid) W' hl2 (by omega) (hr2.kept hW) (fun h => by cases h) (by omega) (by omega) (hcmp.kept hW))
      have hjoin := hide (isort_append (ordS) (l.take mid) (l.drop mid))
      have hmc : ¬ c = mid := by omega
      have hnm : ((n : Int) - (mid : Int)) = ((n - mid : Nat) : Int) := by omega
      have hcm : ((c : Int) - (mid : Int)) = ((c - mid : Nat) : Int) := by omega
      have hcmpH := hide hcmp
      have hlenH := hl
      clear hr hA hcell hr1 hr2 ih hcmp
      unfold maxLen at hc
      go_enter Tryz.func182, Tryz.ntmps182
      go_upto_region 4 with (fail)
      go_cut [6, 7] (fun va vb wc => Nds wc va (isort (ltS) (l.take mid)) ∧ Nds wc vb (isort (ltS) (l.drop mid)) ∧ Below w.heap.size w wc)
      case first =>
        go_region_with (go_at_call 182; first
          | ((with_reducible refine (ih1.out _ ?_).mono ?_); (first | exact Below.refl _ _ | exact (Below.refl _ _).drew | exact hb1 | exact hb2 | exact (Below.refl _ _).drew.trans hb1 | exact (Below.refl _ _).drew.trans hb2); rintro e w1 ⟨v1, rfl, hv1, hb1⟩)
          | ((with_reducible refine (ih2.out _ ?_).mono ?_); (first | exact Below.refl _ _ | exact (Below.refl _ _).drew | exact hb1 | exact hb2 | exact (Below.refl _ _).drew.trans hb1 | exact (Below.refl _ _).drew.trans hb2); rintro e w1 ⟨v2, rfl, hv2, hb2⟩))
        all_goals (go_wp2_with fail; go_meet)
        all_goals first
          | exact ⟨(own_nds hv1).kept hb2, own_nds hv2, bthen ((Below.refl _ _).drew.trans hb1) hb2⟩
          | exact ⟨own_nds hv1, (own_nds hv2).kept hb1, bthen ((Below.refl _ _).drew.trans hb2) hb1⟩
      case rest =>
        obtain ⟨hva, hvb, hbo⟩ := hcut
        have hla := hide (isort_length (lt := ltS) (l.take mid))
        have hlb := hide (isort_length (lt := ltS) (l.drop mid))
        have hG0 := hjoin.out
        rw [List.take_append_drop] at hG0
        generalize hGe : isort (ltS) l = G at *
        replace hG0 := hide hG0
        replace hGe := hide hGe
        generalize isort (ltS) (l.take mid) = la0 at *
        generalize isort (ltS) (l.drop mid) = lb0 at *
        have hlen : la0.length + lb0.length = n := by rw [hla.out, hlb.out, hl1.out, hl2.out]; omega
        have hcmpO := hide (hcmpH.out.kept hbo)
        clear ih1 ih2 hjoin hla hlb hcmpH hmid hnm hcm hmc
        go_wp2_with fail
        go_loopw [6, 7, 8] (fun va vb out wr => MrgRel (ltS) wc n G va vb out wr) (fun va vb _ _ => sliceLen va + sliceLen vb)
        case atStart => exact ⟨la0, lb0, [], hva, hvb, World.ownsRow_nil _ _ _ _, by simpa using hlen, by show _ = _; rw [List.nil_append]; exact hG0.out, Below.refl _ _⟩
        case round =>
          clear hva hvb hlen
          obtain ⟨la, lb, acc, hva, hvb, how, hlen, hgo, hbel⟩ := hrel
          cases la with
          | nil =>
            have hend : Hid (acc ++ ([] : List Nd) ++ lb = G) := by show _ = _; rw [← hgo.out, mrg_nil]; simp
            obtain ⟨Aa, ca, rfl, hAa, _, _, hRa⟩ := hva
            obtain ⟨Ab, cb, rfl, hAb, _, _, hRb⟩ := hvb
            have hra := hide (ndv_range ([] : List Nd))
            have hrb := hide (ndv_range lb)
            obtain ⟨na, hna⟩ : ∃ na, (([] : List Nd)).length = na := ⟨_, rfl⟩
            obtain ⟨nb, hnb⟩ : ∃ nb, (lb).length = nb := ⟨_, rfl⟩
            rw [hna] at hlen hAa hRa hra
            rw [hnb] at hlen hAb hRb hrb
            obtain ⟨m0, hm0⟩ : ∃ m0, acc.length = m0 := ⟨_, rfl⟩
            rw [hm0] at hlen how
            have hna0 : na = 0 := by rw [← hna]; rfl
            subst hna0
            have hm0h := hide hm0
            have hnah := hide hna
            have hnbh := hide hnb
            rw [hna, hnb]
            clear hm0 hna hnb
            go_wp2_with (first
              | (at_builtin; refine wpList_app elNode rfl (.tmp 59) (.tmp 60) rfl wc.heap.size _ _ _ rfl how Aa 0 ca (ndc (([] : List Nd))) rfl (hRa.of_below (Nat.le_refl _) hbel) (fun i _ => ndc_one _ i) (by omega) hbel.size hAa ?_; intro v1 w1 how1 hb1 hgr1 hat1)
              | (at_builtin; refine wpList_app elNode rfl (.tmp 61) (.tmp 62) rfl wc.heap.size _ _ _ rfl how1 Ab nb cb (ndc (lb)) rfl (hRb.of_below (Nat.le_refl _) (hbel.trans hb1)) (fun i _ => ndc_one _ i) (by omega) (hbel.trans hb1).size hAb ?_; intro v2 w2 how2 hb2 hgr2 hat2))
            have hbel1 := hbel.trans hb1
            go_ret
            refine ⟨v2, rfl, ?_, bthen hbo (hbel1.trans hb2)⟩
            rw [hGe.out, ← hend.out]
            refine own_low hbo.size ?_
            rw [hra.out, hrb.out, ← ndv_append, ← ndv_append] at how2
            have e : (acc ++ ([] : List Nd) ++ lb).length = m0 + 0 + nb := by rw [List.length_append, List.length_append, hm0h.out, hnah.out, hnbh.out]
            rw [e]
            exact how2
          | cons x la =>
            cases lb with
            | nil =>
              have hend : Hid (acc ++ (x :: la) ++ ([] : List Nd) = G) := by show _ = _; rw [← hgo.out, mrg_nil']; simp
              obtain ⟨Aa, ca, rfl, hAa, _, _, hRa⟩ := hva
              obtain ⟨Ab, cb, rfl, hAb, _, _, hRb⟩ := hvb
              have hra := hide (ndv_range (x :: la))
              have hrb := hide (ndv_range ([] : List Nd))
              obtain ⟨na, hna⟩ : ∃ na, ((x :: la)).length = na := ⟨_, rfl⟩
              obtain ⟨nb, hnb⟩ : ∃ nb, (([] : List Nd)).length = nb := ⟨_, rfl⟩
              rw [hna] at hlen hAa hRa hra
              rw [hnb] at hlen hAb hRb hrb
              obtain ⟨m0, hm0⟩ : ∃ m0, acc.length = m0 := ⟨_, rfl⟩
              rw [hm0] at hlen how
              have hnb0 : nb = 0 := by rw [← hnb]; rfl
              subst hnb0
              have hna0 : (0 : Int) < (na : Int) := by rw [← hna]; simp
              have hm0h := hide hm0
              have hnah := hide hna
              have hnbh := hide hnb
              rw [hna, hnb]
              clear hm0 hna hnb
              go_wp2_with (first
                | (at_builtin; refine wpList_app elNode rfl (.tmp 59) (.tmp 60) rfl wc.heap.size _ _ _ rfl how Aa na ca (ndc ((x :: la))) rfl (hRa.of_below (Nat.le_refl _) hbel) (fun i _ => ndc_one _ i) (by omega) hbel.size hAa ?_; intro v1 w1 how1 hb1 hgr1 hat1)
                | (at_builtin; refine wpList_app elNode rfl (.tmp 61) (.tmp 62) rfl wc.heap.size _ _ _ rfl how1 Ab 0 cb (ndc (([] : List Nd))) rfl (hRb.of_below (Nat.le_refl _) (hbel.trans hb1)) (fun i _ => ndc_one _ i) (by omega) (hbel.trans hb1).size hAb ?_; intro v2 w2 how2 hb2 hgr2 hat2))
              have hbel1 := hbel.trans hb1
              go_ret
              refine ⟨v2, rfl, ?_, bthen hbo (hbel1.trans hb2)⟩
              rw [hGe.out, ← hend.out]
              refine own_low hbo.size ?_
              rw [hra.out, hrb.out, ← ndv_append, ← ndv_append] at how2
              have e : (acc ++ (x :: la) ++ ([] : List Nd)).length = m0 + na + 0 := by rw [List.length_append, List.length_append, hm0h.out, hnah.out, hnbh.out]
              rw [e]
              exact how2
            | cons y lb =>
              obtain ⟨Aa, ca, rfl, hAa, hca1, hca2, hRa⟩ := hva
              obtain ⟨Ab, cb, rfl, hAb, hcb1, hcb2, hRb⟩ := hvb
              obtain ⟨ba, oa, rfl, hba, ra0, ra1⟩ := rd_at hRa (k := 0) (by simp)
              obtain ⟨bb, ob, rfl, hbb, rb0, rb1⟩ := rd_at hRb (k := 0) (by simp)
              have hNa0 := hide (show Nds wc (.slice (some ⟨ba, oa, none⟩) (x :: la).length ca) (x :: la) from ⟨_, _, rfl, hAa, hca1, hca2, hRa⟩)
              have hNb0 := hide (show Nds wc (.slice (some ⟨bb, ob, none⟩) (y :: lb).length cb) (y :: lb) from ⟨_, _, rfl, hAb, hcb1, hcb2, hRb⟩)
              have hNa := hide (nds_tail hRa hca1 hca2)
              have hNb := hide (nds_tail hRb hcb1 hcb2)
              simp only [Nat.zero_mul, Nat.add_zero, List.getElem_cons_zero] at ra0 ra1 rb0 rb1
              obtain ⟨x1, x2⟩ := x
              obtain ⟨y1, y2⟩ := y
              simp only at ra0 ra1 rb0 rb1
              simp only [List.length_cons] at hca1 hcb1 hlen
              have hmc := hide (mrg_cons (lt := ltS) (x1, x2) (y1, y2) la lb)
              clear hRa hRb hAa hAb
              obtain ⟨m0, hm0⟩ : ∃ m0, acc.length = m0 := ⟨_, rfl⟩
              rw [hm0] at hlen how
              obtain ⟨na, hna⟩ : ∃ na, la.length = na := ⟨_, rfl⟩
              obtain ⟨nb, hnb⟩ : ∃ nb, lb.length = nb := ⟨_, rfl⟩
              rw [hna] at hca1 hlen
              rw [hnb] at hcb1 hlen
              simp only [List.length_cons]
              rw [hna, hnb]
              replace hm0 := hide hm0
              replace hna := hide hna
              replace hnb := hide hnb
              have hz := hbel.size
              have qa0 := (hbel.cell (p := ⟨ba, oa, none⟩) hba).trans ra0
              have qa1 := (hbel.cell (p := ⟨ba, oa + 1, none⟩) hba).trans ra1
              have qb0 := (hbel.cell (p := ⟨bb, ob, none⟩) hbb).trans rb0
              have qb1 := (hbel.cell (p := ⟨bb, ob + 1, none⟩) hbb).trans rb1
              have hba' : ba < wr.heap.size := by omega
              have hbb' : bb < wr.heap.size := by omega
              have hC := fun (e : Later wr.heap.size wr) => hcmpO.out (y1, y2) (x1, x2) e.val (hbel.trans (e.property.mono hz))
              unfold maxLen at hca2 hcb2
              cases hB : ltS (y1, y2) (x1, x2)
              all_goals
                simp only [hB] at hC
                replace hC := hide hC
                go_wp2_with fail
                refine wp_region_later (by kernel_rfl) (by kernel_rfl) ?_
                repeat (go_big_quiet_step (first | (go_at_call 183; exact calls_later (hC.out _)) | exact rfl))
                refine wpQuiet_nil ?_
                rintro _ ⟨e1, rfl⟩
                have bel1 := hbel.trans (e1.property.mono hz)
                have how1 := own_kept how e1.property
                clear how hbel qa0 qa1 qb0 qb1 hz hba' hbb' hC
                generalize e1.val = w1 at *
                clear e1
                have hz := bel1.size
                have qa0 := (bel1.cell (p := ⟨ba, oa, none⟩) hba).trans ra0
                have qa1 := (bel1.cell (p := ⟨ba, oa + 1, none⟩) hba).trans ra1
                have qb0 := (bel1.cell (p := ⟨bb, ob, none⟩) hbb).trans rb0
                have qb1 := (bel1.cell (p := ⟨bb, ob + 1, none⟩) hbb).trans rb1
                have hba' : ba < w1.heap.size := by omega
                have hbb' : bb < w1.heap.size := by omega
                have aga : Value.ownBlock _ ≠ some ba := fun k => by have := (how1.lt ba k).1; omega
                have agb : Value.ownBlock _ ≠ some bb := fun k => by have := (how1.lt bb k).1; omega
              · by_cases hk : ca = 1
                all_goals
                  obtain ⟨i0, hi0, hz0, hz1, hz2⟩ := info_parts elNode.info
                  go_wp2_with fail
                  go_region_held_law (fun w' => w'.cell? ⟨ba, oa, none⟩ = some (.int .i64 x1) ∧ w'.cell? ⟨ba, oa + 1, none⟩ = some (.int .i64 x2))
                    (first
                      | go_keep
                      | (go_split_ands
                         refine ⟨?_, ?_⟩
                         · (rw [hgrow.cell_far _ (by simp; omega) (Ne.symm aga)]; assumption)
                         · (rw [hgrow.cell_far _ (by simp; omega) (Ne.symm aga)]; assumption)))
                    ((refine step_app _ (some 56) (by rfl) (by rfl) _ _ _ (by rfl) wc.heap.size 67 i0 _ 2 16 Tryz.underlying64 hi0 hz0 hz1 hz2 rfl (by omega) _ m0 (ndv acc) (by rfl) ((how1.alloc _).drew)
                        ⟨w1.heap.size, 0, none⟩ 1 1 [.int .i64 x1, .int .i64 x2] (by rfl) (by rfl) (World.news_of_block (cs := #[.int .i64 x1, .int .i64 x2]) (t := 67) (fr := (0, 0)) (heap_alloc_new w1 _)) (by simp [Value.oneCell'])
                        (by omega) (by unfold maxLen; omega) (by omega) (by simp; omega) (w1.heap.size + 1) (by simp) ?_; intro gg cap w2 how2 hgrow hat hlt))
                  all_goals
                    have how3 : w2.ownsRow wc.heap.size 67 2 (.slice (some ⟨gg, 0, none⟩) (m0 + 1) cap) (acc ++ [(x1, x2)]).length (ndv (acc ++ [(x1, x2)])) := by
                      rw [ndv_snoc, List.length_append, hm0.out]; exact how2
                    have hgo2 : Hid ((acc ++ [(x1, x2)]) ++ mrg (ltS) la ((y1, y2) :: lb) = G) := by
                      show _ = _
                      rw [← hgo.out, hmc.out, if_neg (by rw [hB]; simp), List.append_assoc]; rfl
                    have hbel3 : Below wc.heap.size wc w2 := ((bel1.alloc hz _).drew).grown hgrow (by simp; omega) (fun k hk => (how1.lt k hk).1)
                    go_wp2_with fail
                    go_roundw
                    case rel => exact ⟨la, (y1, y2) :: lb, acc ++ [(x1, x2)], (by first | (have q := hNa.out; rw [if_pos hk, hna.out, hk] at q; exact q) | (have q := hNa.out; rw [if_neg hk, hna.out] at q; exact q)), (by have q := hNb0.out; rw [List.length_cons, hnb.out] at q; exact q), how3, (by simp only [List.length_cons, List.length_append, List.length_nil]; rw [hna.out, hnb.out, hm0.out]; omega), hgo2, hbel3⟩
                    case measure => show na + (nb + 1) < na + 1 + (nb + 1); omega
              · by_cases hk : cb = 1
                all_goals
                  obtain ⟨i0, hi0, hz0, hz1, hz2⟩ := info_parts elNode.info
                  go_wp2_with fail
                  go_region_held_law (fun w' => w'.cell? ⟨bb, ob, none⟩ = some (.int .i64 y1) ∧ w'.cell? ⟨bb, ob + 1, none⟩ = some (.int .i64 y2))
                    (first
                      | go_keep
                      | (go_split_ands
                         refine ⟨?_, ?_⟩
                         · (rw [hgrow.cell_far _ (by simp; omega) (Ne.symm agb)]; assumption)
                         · (rw [hgrow.cell_far _ (by simp; omega) (Ne.symm agb)]; assumption)))
                    ((refine step_app _ (some 48) (by rfl) (by rfl) _ _ _ (by rfl) wc.heap.size 67 i0 _ 2 16 Tryz.underlying64 hi0 hz0 hz1 hz2 rfl (by omega) _ m0 (ndv acc) (by rfl) ((how1.alloc _).drew)
                        ⟨w1.heap.size, 0, none⟩ 1 1 [.int .i64 y1, .int .i64 y2] (by rfl) (by rfl) (World.news_of_block (cs := #[.int .i64 y1, .int .i64 y2]) (t := 67) (fr := (0, 0)) (heap_alloc_new w1 _)) (by simp [Value.oneCell'])
                        (by omega) (by unfold maxLen; omega) (by omega) (by simp; omega) (w1.heap.size + 1) (by simp) ?_; intro gg cap w2 how2 hgrow hat hlt))
                  all_goals
                    have how3 : w2.ownsRow wc.heap.size 67 2 (.slice (some ⟨gg, 0, none⟩) (m0 + 1) cap) (acc ++ [(y1, y2)]).length (ndv (acc ++ [(y1, y2)])) := by
                      rw [ndv_snoc, List.length_append, hm0.out]; exact how2
                    have hgo2 : Hid ((acc ++ [(y1, y2)]) ++ mrg (ltS) ((x1, x2) :: la) lb = G) := by
                      show _ = _
                      rw [← hgo.out, hmc.out, if_pos hB, List.append_assoc]; rfl
                    have hbel3 : Below wc.heap.size wc w2 := ((bel1.alloc hz _).drew).grown hgrow (by simp; omega) (fun k hk => (how1.lt k hk).1)
                    go_wp2_with fail
                    go_roundw
                    case rel => exact ⟨(x1, x2) :: la, lb, acc ++ [(y1, y2)], (by have q := hNa0.out; rw [List.length_cons, hna.out] at q; exact q), (by first | (have q := hNb.out; rw [if_pos hk, hnb.out, hk] at q; exact q) | (have q := hNb.out; rw [if_neg hk, hnb.out] at q; exact q)), how3, (by simp only [List.length_cons, List.length_append, List.length_nil]; rw [hna.out, hnb.out, hm0.out]; omega), hgo2, hbel3⟩
                    case measure => show na + 1 + nb < na + 1 + (nb + 1); omega
theorem roll_sorted_o (A : Option Addr) (c : Nat) (l : List Nd) (w : World) (hr : Rd w A l.length 2 (ndc l)) (hA : A = none → l.length = 0) (hc : l.length ≤ c) (hm : c ≤ maxLen) (hl : l.length ≤ 1000000) :
    Calls Tryz.prog 146 #[.slice A l.length c] w fun e w' => ∃ v, e = .returned v ∧ w'.ownsRow w.heap.size 67 2 v (isort ltS l).length (ndv (isort ltS l)) ∧ Below w.heap.size w w' := by
  have h := hide (sorted_O l.length l.length (Nat.le_refl _) A c l w rfl hl hr hA hc hm (cmpS w))
  generalize l.length = n at *
  go_enter Tryz.func146, Tryz.ntmps146
  go_wp2_with fail
  refine h.out.mono ?_
  rintro e w1 ⟨v, rfl, hv, hb1⟩
  go_wp2_with fail
  go_ret
  exact ⟨v, rfl, hv, hb1⟩

end Go.Proofs.YteebghoijaaakaaGreat

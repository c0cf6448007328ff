/- The walks of layer 6, on: the reference's each number once. By the prover of this repo. -/
import Derived.Test.YtbfecpomlkapdaaRollF
import Derived.Test.YtbfecpomlkapdaaRollQ
import Derived.Test.YtbfecpomlkapdaaRollV
import Derived.StillTailTactics
namespace Go.Proofs.Ytbfecpomlkapdaa
open Go.RowKit
open TwigM RollM

set_option maxRecDepth 100000 in
set_option maxHeartbeats 4000000 in
theorem ref06_fold (A : Option Addr) (c : Nat) (l : List Nd) (w : World) (hr : Rd w A l.length 2 (ndc l)) (hA : A = none → l.length = 0) (hc : l.length ≤ c) (hm : c ≤ maxLen) (hl : l.length ≤ 1000000) (hwf : NdWf l) :
    Calls Try.prog 53 #[.slice A l.length c] w fun e w' => ∃ v, e = .returned (.tuple #[v, .bool (foldF l).2]) ∧ Nds w' v (foldF l).1 ∧ Below w.heap.size w w' := by
  have hT := ref06_total A c l w hr hl hwf
  have hS := fun W (hW : Below w.heap.size w W) => ref06_sorted A c l W (hr.kept hW) hl
  unfold foldF
  generalize totF l = tt at hT ⊢
  obtain ⟨tn, tb⟩ := tt
  have hlen : Hid ((isort ltS l).length ≤ 1000000) := by show _ ≤ _; rw [isort_length]; exact hl
  generalize isort ltS l = S at *
  replace hT := hide hT
  replace hS := hide hS
  clear hr hA hc hm hl
  cases tb
  · generalize l.length = n at *
    go_enter Try.func53, Try.ntmps53
    go_wp2_with fail
    refine hT.out.mono ?_
    rintro e w1 ⟨rfl, hb1⟩
    go_wp2_with fail
    go_ret2
    exact ⟨_, rfl, Nds.nil _, hb1⟩
  · rw [if_pos rfl]
    generalize hG : foldGo [] S = G at *
    replace hG := hide hG
    generalize l.length = ln at *
    go_enter Try.func53, Try.ntmps53
    go_wp2_with fail
    refine hT.out.mono ?_
    rintro e w1 ⟨rfl, hb1⟩
    go_wp2_with fail
    refine (hS.out _ hb1).mono ?_
    rintro e w2 ⟨v, rfl, hv, hb2⟩
    obtain ⟨A2, c2, rfl, hA2, _, _, hr2⟩ := hv.nds
    obtain ⟨n, hn⟩ : ∃ n, Hid (S.length = n) := ⟨_, rfl⟩
    have hrn : Hid (Rd w2 A2 S.length 2 (ndc S)) := hr2
    have hl2 : n ≤ 1000000 := by rw [← hn.out]; exact hlen.out
    have hb3 := bthen hb1 hb2
    have hw2 := hb3.size
    rw [hn.out]
    clear hr2 hA2 hT hS hb1 hb2
    go_wp2_with fail
    go_loopw [7, 8] (fun out k wr => FoldRel w2 w2.heap.size n S G out k wr) (fun _ k _ => n - (intOf k).toNat)
    case atStart => exact ⟨0, [], by omega, rfl, by simp, World.ownsRow_nil _ _ _ _, by show _ = _; rw [List.drop_zero]; exact hG.out, Below.refl _ _⟩
    case round =>
      obtain ⟨i, acc, hi, rfl, hacc, how, hgo, hbel⟩ := hrel
      by_cases hlt : i < n
      · have hil : i < S.length := by rw [hn.out]; exact hlt
        obtain ⟨b, off, rfl, hb, c0, c1⟩ := rd_at (hrn.out.of_below (Nat.le_refl _) hbel) hil
        rw [List.drop_eq_getElem_cons hil] at hgo
        generalize S[i] = p at *
        obtain ⟨x, y⟩ := p
        simp only at c0 c1
        have hmi : Hid (acc.length ≤ i) := hacc
        by_cases hx : x < 1
        · have hres : Hid (([], false) = G) := by show _ = _; rw [← hgo.out, fold_bad hx]
          generalize acc.length = m at *
          obtain ⟨Ao, co, rfl⟩ := own_len how
          go_wp2_with fail
          go_ret2
          refine ⟨_, by rw [← hres.out]; rfl, by rw [← hres.out]; exact Nds.nil _, bthen hb3 (hbel)⟩
        · by_cases hy : y = 0
          · have hgo2 : Hid (foldGo acc (S.drop (i + 1)) = G) := by show _ = _; rw [← hgo.out, fold_zero hx hy]
            subst hy
            generalize hm : acc.length = m at *
            replace hm := hide hm
            obtain ⟨Ao, co, rfl⟩ := own_len how
            go_wp2_with fail
            go_roundw
            case rel => exact ⟨i + 1, acc, by omega, by go_num, by rw [hm.out]; omega, by rw [hm.out]; exact how, hgo2, hbel⟩
            case measure => simp [intOf]; omega
          · have hyf : (y == 0) = false := by simpa using hy
            rcases List.eq_nil_or_concat acc with hacc0 | ⟨init, q, hacc0⟩
            · subst hacc0
              have hgo2 : Hid (foldGo [(x, y)] (S.drop (i + 1)) = G) := by show _ = _; rw [← hgo.out, fold_new hx hy]
              clear hy hmi hacc
              simp only [List.length_nil] at how
              obtain ⟨Ao, co, rfl⟩ := own_len how
              have howk : ∀ (k : Nat), (wr.drewN k).ownsRow w2.heap.size 43 2 (.slice Ao 0 co) 0 (ndv []) := fun _ => how
              replace howk := hide howk
              go_wp2_with fail
              go_quiet (fail)
              go_wp2_with (at_builtin; go_loud (refine wpList_app1 elNode rfl (.tmp 72) (.tmp 77) rfl w2.heap.size _ _ _ [.int .i64 x, .int .i64 y] 43 rfl (howk.out _) (show Value.slice (some ⟨wr.heap.size, 0, none⟩) 1 1 = .slice (some ⟨(wr.drewN _).heap.size, 0, none⟩) 1 1 from by simp) rfl (nd_ones (x, y)) (by omega) hbel.size ?_); intro v1 w1 how1 hb1 hgr1 hat1)
              go_roundw
              case rel => exact ⟨i + 1, [(x, y)], by omega, by go_num, by simp, how1, hgo2, (below_drewN (hbel) _).trans hb1⟩
              case measure => simp [intOf]; omega
            · subst hacc0
              obtain ⟨m, hm⟩ : ∃ m, init.length = m := ⟨_, rfl⟩
              rw [List.concat_eq_append] at how hgo hmi
              have hlen1 : (init ++ [q]).length = m + 1 := by simp [hm]
              rw [hlen1] at how hmi
              have hmi2 := hmi.out
              obtain ⟨g, cg, rfl, hg1, hg2, d0, d1, hfz⟩ := own_last hm how
              by_cases hq : q.1 = x
              · have hgo2 : Hid (foldGo (init ++ [(q.1, wrap64 (q.2 + y))]) (S.drop (i + 1)) = G) := by show _ = _; rw [← hgo.out, fold_bump hx hy hq]
                have hst : Hid (∀ (W : World) (u : Int), W.ownsRow w2.heap.size 43 2 (.slice (some ⟨g, 0, none⟩) (m + 1) cg) (m + 1) (ndv (init ++ [q])) → (W.setCell ⟨g, m * 2 + 1, none⟩ (.int .i64 u)).ownsRow w2.heap.size 43 2 (.slice (some ⟨g, 0, none⟩) (m + 1) cg) (m + 1) (ndv (init ++ [(q.1, u)]))) := by
                  intro W u h
                  have := (h.stored (m * 2 + 1) (.int .i64 u)).1
                  rwa [← hm, ndv_bump, hm] at this
                have hlen2 : Hid ((init ++ [(q.1, wrap64 (q.2 + y))]).length = m + 1) := by show _ = _; simp [hm]
                replace hlen1 := hide hlen1
                obtain ⟨q1, q2⟩ := q
                simp only at d0 d1 hq
                subst hq
                clear hy hmi hacc hm
                go_wp2_with fail
                go_quiet (fail)
                go_wp2_with fail
                refine wp_still_tail 17 (by kernel_rfl) (by kernel_rfl) ?_
                intro V hV
                have how3 : V.ownsRow w2.heap.size 43 2 (.slice (some ⟨g, 0, none⟩) (m + 1) cg) (m + 1) (ndv (init ++ [(q1, q2)])) := by rw [hV]; exact how
                have hb4 : Below w2.heap.size w2 V := by rw [hV]; exact below_drewN (below_drewN (hbel) _) _
                have e0 : V.cell? ⟨g, m * 2 + 1, none⟩ = some (.int .i64 q2) := by rw [hV]; exact d1
                have e1 : V.cell? ⟨b, off + i * 2 + 1, none⟩ = some (.int .i64 y) := by rw [hV]; exact c1
                have e5 : b < V.heap.size := by rw [hV]; exact hb
                have e2 : V.frozen? ⟨g, m * 2 + 1, none⟩ = false := how3.frozenAt _
                have e3 : g < V.heap.size := (how3.lt g rfl).2
                replace how3 := hide how3
                clear hV d0 d1 hfz how c0 c1
                simp only [List.take_succ_cons, List.take_zero, List.drop_succ_cons, List.drop_zero]
                have hwm := IntWalk.i64_in (m : Int) ⟨by omega, by omega⟩
                have hwl : (m : Int) < (m : Int) + 1 := by omega
                have hwa := IntWalk.i64_left (q2 + y)
                repeat still_step
                refine wpStill_nil ?_
                go_wp2_with fail
                go_roundw
                case rel => exact ⟨i + 1, init ++ [(q1, wrap64 (q2 + y))], by omega, by go_num, by rw [hlen2.out]; omega, by rw [hlen2.out]; exact hst.out _ _ how3.out, hgo2, hb4.setCell hg1 _⟩
                case measure => simp [intOf]; omega
              · have hgo2 : Hid (foldGo (init ++ [q] ++ [(x, y)]) (S.drop (i + 1)) = G) := by show _ = _; rw [← hgo.out, fold_app hx hy hq]
                have hqf : (q.1 == x) = false := by simpa using hq
                have hlen2 : Hid ((init ++ [q] ++ [(x, y)]).length = m + 1 + 1) := by show _ = _; simp [hm]
                have hnd : Hid (ndv (init ++ [q]) ++ [.int .i64 x, .int .i64 y] = ndv (init ++ [q] ++ [(x, y)])) := (ndv_snoc (init ++ [q]) (x, y)).symm
                replace hlen1 := hide hlen1
                obtain ⟨q1, q2⟩ := q
                simp only at d0 d1 hqf
                clear hy hmi hacc hm hq
                have howk : ∀ (k : Nat), (wr.drewN k).ownsRow w2.heap.size 43 2 (.slice (some ⟨g, 0, none⟩) (m + 1) cg) (m + 1) (ndv (init ++ [(q1, q2)])) := fun _ => how
                replace howk := hide howk
                go_wp2_with fail
                go_quiet (fail)
                go_wp2_with (at_builtin; go_loud (refine wpList_app1 elNode rfl (.tmp 72) (.tmp 77) rfl w2.heap.size _ _ _ [.int .i64 x, .int .i64 y] 43 rfl (howk.out _) (show Value.slice (some ⟨wr.heap.size, 0, none⟩) 1 1 = .slice (some ⟨(wr.drewN _).heap.size, 0, none⟩) 1 1 from by simp) rfl (nd_ones (x, y)) (by omega) hbel.size ?_); intro v1 w1 how1 hb1 hgr1 hat1)
                go_roundw
                case rel => exact ⟨i + 1, init ++ [(q1, q2)] ++ [(x, y)], by omega, by go_num, by rw [hlen2.out]; omega, by rw [hlen2.out, ← hnd.out]; exact how1, hgo2, (below_drewN (hbel) _).trans hb1⟩
                case measure => simp [intOf]; omega
      · have hres : Hid ((acc, true) = G) := by show _ = _; rw [← hgo.out, List.drop_of_length_le (by rw [hn.out]; omega), fold_nil]
        generalize hm : acc.length = m at *
        replace hm := hide hm
        obtain ⟨Ao, co, rfl⟩ := own_len how
        go_wp2_with fail
        go_ret2
        refine ⟨_, by rw [← hres.out]; rfl, by rw [← hres.out]; exact own_nds (by rw [hm.out]; exact how), bthen hb3 hbel⟩
end Go.Proofs.Ytbfecpomlkapdaa

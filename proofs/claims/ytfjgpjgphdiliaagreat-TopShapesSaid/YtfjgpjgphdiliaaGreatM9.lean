/- Part 9 of the proof: texts joined by this repo's tools/merge.py (RollF). By the prover of this repo. -/
import Derived.Test.YtfjgpjgphdiliaaGreatM8
import Derived.StillTailTactics
set_option linter.unusedVariables false
set_option linter.unusedSimpArgs false
/- The walks of layer 6, on: each number once. By the prover of this repo. -/
namespace Go.Proofs.YtfjgpjgphdiliaaGreat
open Go.RowKit
open TwigM RollM

theorem lastId_snoc : ∀ (l : List Nd) (q : Nd), lastId (l ++ [q]) = some q.1
  | [], q => rfl
  | [a], q => rfl
  | a :: b :: l, q => by have := lastId_snoc (b :: l) q; simpa [lastId] using this
theorem bump_snoc (n : Int) : ∀ (l : List Nd) (q : Nd), bump n (l ++ [q]) = l ++ [(q.1, wrap64 (q.2 + n))]
  | [], q => rfl
  | [a], q => rfl
  | a :: b :: l, q => by have := bump_snoc n (b :: l) q; simpa [bump] using this
theorem fold_nil (out : List Nd) : foldGo out [] = (out, true) := rfl
theorem fold_bad {out : List Nd} {p : Nd} {r : List Nd} (h : p.1 < 1) : foldGo out (p :: r) = ([], false) := if_pos h
theorem fold_zero {out : List Nd} {p : Nd} {r : List Nd} (h : ¬ p.1 < 1) (h2 : p.2 = 0) : foldGo out (p :: r) = foldGo out r := by rw [foldGo, if_neg h, if_pos h2]
theorem fold_new {p : Nd} {r : List Nd} (h : ¬ p.1 < 1) (h2 : ¬ p.2 = 0) : foldGo [] (p :: r) = foldGo [p] r := by rw [foldGo, if_neg h, if_neg h2, if_neg (by simp [lastId])]; rfl
theorem fold_bump {out : List Nd} {q p : Nd} {r : List Nd} (h : ¬ p.1 < 1) (h2 : ¬ p.2 = 0) (h3 : q.1 = p.1) : foldGo (out ++ [q]) (p :: r) = foldGo (out ++ [(q.1, wrap64 (q.2 + p.2))]) r := by
  rw [foldGo, if_neg h, if_neg h2, if_pos (by rw [lastId_snoc, h3]), bump_snoc]
theorem fold_app {out : List Nd} {q p : Nd} {r : List Nd} (h : ¬ p.1 < 1) (h2 : ¬ p.2 = 0) (h3 : ¬ q.1 = p.1) : foldGo (out ++ [q]) (p :: r) = foldGo (out ++ [q] ++ [p]) r := by
  rw [foldGo, if_neg h, if_neg h2, if_neg (by rw [lastId_snoc]; simpa using h3)]
theorem set_end {a b u : Value} : ∀ (l : List Value) (k : Nat), k = l.length → (l ++ [a, b]).set (k + 1) u = l ++ [a, u]
  | [], _, rfl => rfl
  | x :: l, _, rfl => by
    rw [List.cons_append, List.length_cons, List.set_cons_succ, set_end l _ rfl]
    rfl
theorem ndv_bump (out : List Nd) (q : Nd) (y : Int) : (ndv (out ++ [q])).set (out.length * 2 + 1) (.int .i64 y) = ndv (out ++ [(q.1, y)]) := by
  rw [ndv_snoc, ndv_snoc, set_end _ _ (by rw [ndv_length])]
theorem own_len {w : World} {base n : Nat} {v : Value} {xs : List Value} (h : w.ownsRow base 76 2 v n xs) : ∃ A c, v = .slice A n c := by
  rcases h.2 with ⟨rfl, rfl⟩ | ⟨g, cap, cur, rfl, _⟩
  · exact ⟨_, _, rfl⟩
  · exact ⟨_, _, rfl⟩

/-- One that is owned, with its last element. -/
theorem own_last {w : World} {base : Nat} {v : Value} {out : List Nd} {q : Nd} {m : Nat} (hm : out.length = m) (h : w.ownsRow base 76 2 v (m + 1) (ndv (out ++ [q]))) :
    ∃ g c, v = .slice (some ⟨g, 0, none⟩) (m + 1) c ∧ base ≤ g ∧ g < w.heap.size ∧ w.cell? ⟨g, m * 2, none⟩ = some (.int .i64 q.1) ∧ w.cell? ⟨g, m * 2 + 1, none⟩ = some (.int .i64 q.2) ∧ w.frozen? ⟨g, m * 2 + 1, none⟩ = false := by
  obtain ⟨g, c, rfl⟩ : ∃ g c, v = .slice (some ⟨g, 0, none⟩) (m + 1) c := by
    rcases h.2 with ⟨_, h0⟩ | ⟨g, cap, cur, rfl, _⟩
    · omega
    · exact ⟨_, _, rfl⟩
  have hlt := h.lt g rfl
  refine ⟨g, c, rfl, hlt.1, hlt.2, ?_, ?_, h.frozenAt _⟩
  · rw [h.cellAt _ (by omega), ndv_snoc, List.getElem?_append_right (by rw [ndv_length]; omega), ndv_length, hm, Nat.sub_self]; rfl
  · rw [h.cellAt _ (by omega), ndv_snoc, List.getElem?_append_right (by rw [ndv_length]; omega), ndv_length, hm, Nat.add_sub_cancel_left]; rfl

theorem wp_still_tail {P : Program} {id : Nat} {Q : Exit → Act → World → Prop} {a : Act} {w : World} {l : List Oper} (n : Nat) (hm : P.follows .mixedOrders = true) (hB : Region.lexTailB .any l.toArray n = true)
    (h : ∀ V, V = w.drewN 1 → wpStill P l.toArray V (fun a' => wpList P l.toArray Q (l.drop n) a' V) (l.take n) a) : (Code.region id l.toArray true).wp P Q a w :=
  wp_region_still_tail n hm hB (h _ rfl)

/-- What a round of the folding holds. -/
def FoldRel (w : World) (base n : Nat) (S : List Nd) (G : List Nd × Bool) (out k : Value) (wr : World) : Prop :=
  ∃ (i : Nat) (acc : List Nd), i ≤ n ∧ k = .int .i64 i ∧ acc.length ≤ i ∧ wr.ownsRow base 76 2 out acc.length (ndv acc) ∧ Hid (foldGo acc (S.drop i) = G) ∧ Below base w wr

set_option maxRecDepth 100000 in
set_option maxHeartbeats 4000000 in
theorem roll_fold (A : Option Addr) (c : Nat) (l : List Nd) (w : World) (hr : Rd w A l.length 2 (ndc l)) (hA : A = none → l.length = 0) (hc : l.length ≤ c) (hm : c ≤ maxLen) (hl : l.length ≤ 1000000) (hwf : NdWf l) :
    Calls Tryz.prog 58 #[.slice A l.length c] w fun e w' => ∃ v, e = .returned (.tuple #[v, .bool (foldF l).2]) ∧ Nds w' v (foldF l).1 ∧ Below w.heap.size w w' := by
  have hT := roll_total A c l w hr hl hwf
  have hS := fun W (hW : Below w.heap.size w W) => roll_sorted A c l W (hr.kept hW) hA hc hm hl
  unfold foldF
  generalize totF l = tt at hT ⊢
  obtain ⟨tn, tb⟩ := tt
  have hlen : Hid ((isort ltS l).length ≤ 1000000) := by show _ ≤ _; rw [isort_length]; exact hl
  generalize isort ltS l = S at *
  replace hT := hide hT
  replace hS := hide hS
  clear hr hA hc hm hl
  cases tb
  · generalize l.length = n at *
    go_enter Tryz.func58, Tryz.ntmps58
    go_wp2_with fail
    refine hT.out.mono ?_
    rintro e w1 ⟨rfl, hb1⟩
    go_wp2_with fail
    go_ret2
    exact ⟨_, rfl, Nds.nil _, hb1⟩
  · rw [if_pos rfl]
    generalize hG : foldGo [] S = G at *
    replace hG := hide hG
    generalize l.length = ln at *
    go_enter Tryz.func58, Tryz.ntmps58
    go_wp2_with fail
    refine hT.out.mono ?_
    rintro e w1 ⟨rfl, hb1⟩
    go_wp2_with fail
    refine (hS.out _ hb1).mono ?_
    rintro e w2 ⟨v, rfl, hv, hb2⟩
    obtain ⟨A2, c2, rfl, hA2, _, _, hr2⟩ := hv
    obtain ⟨n, hn⟩ : ∃ n, Hid (S.length = n) := ⟨_, rfl⟩
    have hrn : Hid (Rd w2 A2 S.length 2 (ndc S)) := hr2
    have hl2 : n ≤ 1000000 := by rw [← hn.out]; exact hlen.out
    have hb3 := bthen hb1 hb2
    have hw2 := hb3.size
    rw [hn.out]
    clear hr2 hA2 hT hS hb1 hb2
    go_wp2_with fail
    go_loopw [6, 20] (fun out k wr => FoldRel w2 w2.heap.size n S G out k wr) (fun _ k _ => n - (intOf k).toNat)
    case atStart => exact ⟨0, [], by omega, rfl, by simp, World.ownsRow_nil _ _ _ _, by show _ = _; rw [List.drop_zero]; exact hG.out, Below.refl _ _⟩
    case round =>
      obtain ⟨i, acc, hi, rfl, hacc, how, hgo, hbel⟩ := hrel
      by_cases hlt : i < n
      · have hil : i < S.length := by rw [hn.out]; exact hlt
        obtain ⟨b, off, rfl, hb, c0, c1⟩ := rd_at (hrn.out.of_below (Nat.le_refl _) hbel) hil
        rw [List.drop_eq_getElem_cons hil] at hgo
        generalize S[i] = p at *
        obtain ⟨x, y⟩ := p
        simp only at c0 c1
        have hmi : Hid (acc.length ≤ i) := hacc
        by_cases hx : x < 1
        · have hres : Hid (([], false) = G) := by show _ = _; rw [← hgo.out, fold_bad hx]
          generalize acc.length = m at *
          obtain ⟨Ao, co, rfl⟩ := own_len how
          go_wp2_with fail
          go_ret2
          refine ⟨_, by rw [← hres.out]; rfl, by rw [← hres.out]; exact Nds.nil _, bthen hb3 (balloc hbel _)⟩
        · by_cases hy : y = 0
          · have hgo2 : Hid (foldGo acc (S.drop (i + 1)) = G) := by show _ = _; rw [← hgo.out, fold_zero hx hy]
            subst hy
            generalize hm : acc.length = m at *
            replace hm := hide hm
            obtain ⟨Ao, co, rfl⟩ := own_len how
            go_wp2_with fail
            go_roundw
            case rel => exact ⟨i + 1, acc, by omega, by go_num, by rw [hm.out]; omega, by rw [hm.out]; exact how.alloc _, hgo2, balloc hbel _⟩
            case measure => simp [intOf]; omega
          · have hyf : (y == 0) = false := by simpa using hy
            rcases List.eq_nil_or_concat acc with hacc0 | ⟨init, q, hacc0⟩
            · subst hacc0
              have hgo2 : Hid (foldGo [(x, y)] (S.drop (i + 1)) = G) := by show _ = _; rw [← hgo.out, fold_new hx hy]
              clear hy hmi hacc
              simp only [List.length_nil] at how
              obtain ⟨Ao, co, rfl⟩ := own_len how
              have howk : ∀ (o : Obj) (k : Nat), ((wr.alloc o).drewN k).ownsRow w2.heap.size 76 2 (.slice Ao 0 co) 0 (ndv []) := fun o k => how.alloc o
              replace howk := hide howk
              go_wp2_with fail
              go_quiet (fail)
              go_wp2_with (at_builtin; go_loud (refine wpList_app1 elNode rfl (.tmp 26) (.tmp 28) rfl w2.heap.size _ _ _ [.int .i64 x, .int .i64 y] 76 rfl (howk.out _ _) (show Value.slice (some ⟨wr.heap.size + 1, 0, none⟩) 1 1 = .slice (some ⟨((wr.alloc _).drewN _).heap.size, 0, none⟩) 1 1 from by simp) rfl (nd_ones (x, y)) (by omega) (by have := hbel.size; simp; omega) ?_); intro v1 w1 how1 hb1 hgr1 hat1)
              go_roundw
              case rel => exact ⟨i + 1, [(x, y)], by omega, by go_num, by simp, how1, hgo2, (below_drewN (balloc hbel _) _).trans hb1⟩
              case measure => simp [intOf]; omega
            · subst hacc0
              obtain ⟨m, hm⟩ : ∃ m, init.length = m := ⟨_, rfl⟩
              rw [List.concat_eq_append] at how hgo hmi
              have hlen1 : (init ++ [q]).length = m + 1 := by simp [hm]
              rw [hlen1] at how hmi
              have hmi2 := hmi.out
              obtain ⟨g, cg, rfl, hg1, hg2, d0, d1, hfz⟩ := own_last hm how
              by_cases hq : q.1 = x
              · have hgo2 : Hid (foldGo (init ++ [(q.1, wrap64 (q.2 + y))]) (S.drop (i + 1)) = G) := by show _ = _; rw [← hgo.out, fold_bump hx hy hq]
                have hst : Hid (∀ (W : World) (u : Int), W.ownsRow w2.heap.size 76 2 (.slice (some ⟨g, 0, none⟩) (m + 1) cg) (m + 1) (ndv (init ++ [q])) → (W.setCell ⟨g, m * 2 + 1, none⟩ (.int .i64 u)).ownsRow w2.heap.size 76 2 (.slice (some ⟨g, 0, none⟩) (m + 1) cg) (m + 1) (ndv (init ++ [(q.1, u)]))) := by
                  intro W u h
                  have := (h.stored (m * 2 + 1) (.int .i64 u)).1
                  rwa [← hm, ndv_bump, hm] at this
                have hlen2 : Hid ((init ++ [(q.1, wrap64 (q.2 + y))]).length = m + 1) := by show _ = _; simp [hm]
                replace hlen1 := hide hlen1
                obtain ⟨q1, q2⟩ := q
                simp only at d0 d1 hq
                subst hq
                clear hy hmi hacc hm
                go_wp2_with fail
                go_quiet (fail)
                go_wp2_with fail
                refine wp_still_tail 11 (by kernel_rfl) (by kernel_rfl) ?_
                intro V hV
                have how3 : V.ownsRow w2.heap.size 76 2 (.slice (some ⟨g, 0, none⟩) (m + 1) cg) (m + 1) (ndv (init ++ [(q1, q2)])) := by rw [hV]; exact how.alloc _
                have hb4 : Below w2.heap.size w2 V := by rw [hV]; exact below_drewN (below_drewN (balloc hbel _) _) _
                have e0 : V.cell? ⟨g, m * 2 + 1, none⟩ = some (.int .i64 q2) := by rw [hV]; exact (World.cell?_alloc_lt _ _ _ hg2).trans d1
                have e1 : V.cell? ⟨wr.heap.size, 1, none⟩ = some (.int .i64 y) := by rw [hV]; exact (Blk.made wr 76 #[.int .i64 q1, .int .i64 y]).cell 1
                have e2 : V.frozen? ⟨g, m * 2 + 1, none⟩ = false := how3.frozenAt _
                have e3 : g < V.heap.size := (how3.lt g rfl).2
                have e4 : wr.heap.size < V.heap.size := by rw [hV]; simp
                replace how3 := hide how3
                clear hV d0 d1 hfz how c0 c1
                simp only [List.take_succ_cons, List.take_zero, List.drop_succ_cons, List.drop_zero]
                have hwm := IntWalk.i64_in (m : Int) ⟨by omega, by omega⟩
                have hwl : (m : Int) < (m : Int) + 1 := by omega
                have hwa := IntWalk.i64_left (q2 + y)
                repeat still_step
                refine wpStill_nil ?_
                go_wp2_with fail
                go_roundw
                case rel => exact ⟨i + 1, init ++ [(q1, wrap64 (q2 + y))], by omega, by go_num, by rw [hlen2.out]; omega, by rw [hlen2.out]; exact hst.out _ _ how3.out, hgo2, hb4.setCell hg1 _⟩
                case measure => simp [intOf]; omega
              · have hgo2 : Hid (foldGo (init ++ [q] ++ [(x, y)]) (S.drop (i + 1)) = G) := by show _ = _; rw [← hgo.out, fold_app hx hy hq]
                have hqf : (q.1 == x) = false := by simpa using hq
                have hlen2 : Hid ((init ++ [q] ++ [(x, y)]).length = m + 1 + 1) := by show _ = _; simp [hm]
                have hnd : Hid (ndv (init ++ [q]) ++ [.int .i64 x, .int .i64 y] = ndv (init ++ [q] ++ [(x, y)])) := (ndv_snoc (init ++ [q]) (x, y)).symm
                replace hlen1 := hide hlen1
                obtain ⟨q1, q2⟩ := q
                simp only at d0 d1 hqf
                clear hy hmi hacc hm hq
                have howk : ∀ (o : Obj) (k : Nat), ((wr.alloc o).drewN k).ownsRow w2.heap.size 76 2 (.slice (some ⟨g, 0, none⟩) (m + 1) cg) (m + 1) (ndv (init ++ [(q1, q2)])) := fun o k => how.alloc o
                replace howk := hide howk
                go_wp2_with fail
                go_quiet (fail)
                go_wp2_with (at_builtin; go_loud (refine wpList_app1 elNode rfl (.tmp 26) (.tmp 28) rfl w2.heap.size _ _ _ [.int .i64 x, .int .i64 y] 76 rfl (howk.out _ _) (show Value.slice (some ⟨wr.heap.size + 1, 0, none⟩) 1 1 = .slice (some ⟨((wr.alloc _).drewN _).heap.size, 0, none⟩) 1 1 from by simp) rfl (nd_ones (x, y)) (by omega) (by have := hbel.size; simp; omega) ?_); intro v1 w1 how1 hb1 hgr1 hat1)
                go_roundw
                case rel => exact ⟨i + 1, init ++ [(q1, q2)] ++ [(x, y)], by omega, by go_num, by rw [hlen2.out]; omega, by rw [hlen2.out, ← hnd.out]; exact how1, hgo2, (below_drewN (balloc hbel _) _).trans hb1⟩
                case measure => simp [intOf]; omega
      · have hres : Hid ((acc, true) = G) := by show _ = _; rw [← hgo.out, List.drop_of_length_le (by rw [hn.out]; omega), fold_nil]
        generalize hm : acc.length = m at *
        replace hm := hide hm
        obtain ⟨Ao, co, rfl⟩ := own_len how
        go_wp2_with fail
        go_ret2
        refine ⟨_, by rw [← hres.out]; rfl, by rw [← hres.out]; exact own_nds (by rw [hm.out]; exact how), bthen hb3 hbel⟩
end Go.Proofs.YtfjgpjgphdiliaaGreat

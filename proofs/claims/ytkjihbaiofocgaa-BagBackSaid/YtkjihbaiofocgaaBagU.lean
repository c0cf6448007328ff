/- Layer 10: a value's weight more, in a bag that lies in memory. By the prover of this repo. -/
import Derived.Test.YtkjihbaiofocgaaBagP
import Derived.Test.YtkjihbaiofocgaaBagC
import Derived.StillTailTactics
namespace Go.Proofs.Ytkjihbaiofocgaa
open Go.RowKit
open TwigM BagM

theorem wp_still_tail {P : Program} {id : Nat} {Q : Exit → Act → World → Prop} {a : Act} {w : World} {l : List Oper} (n : Nat) (hm : P.follows .mixedOrders = true) (hB : Region.lexTailB .any l.toArray n = true)
    (h : ∀ V, V = w.drewN 1 → wpStill P l.toArray V (fun a' => wpList P l.toArray Q (l.drop n) a' V) (l.take n) a) : (Code.region id l.toArray true).wp P Q a w :=
  wp_region_still_tail n hm hB (h _ rfl)

theorem ndv_set : ∀ (l : List Rg) (k : Nat) (x y : Int) (h : k < l.length), l[k].1 = x → (ndv l).set (k * 2 + 1) (.int .i64 y) = ndv (l.set k (x, y))
  | [], k, x, y, h, _ => by simp at h
  | p :: l, 0, x, y, _, e => by simp at e; subst e; simp [ndv]
  | p :: l, k + 1, x, y, h, e => by
    have := ndv_set l k x y (by simpa using h) (by simpa using e)
    rw [show (k + 1) * 2 + 1 = k * 2 + 1 + 2 by omega]
    simpa [ndv] using this
theorem ndv_moved (l : List Rg) (k : Nat) (x n : Int) (h : k ≤ l.length) :
    ((moved (ndv l ++ [.int .i64 0, .int .i64 0]) 2 (l.length + 1) k).set (k * 2) (.int .i64 x)).set (k * 2 + 1) (.int .i64 n) = ndv (l.take k ++ (x, n) :: l.drop k) := by
  have hz : ndv l ++ [.int .i64 0, .int .i64 0] = ndv (l ++ [(0, 0)]) := (ndv_snoc l (0, 0)).symm
  rw [hz]
  apply List.ext_getElem?
  intro j
  have hml : (moved (ndv (l ++ [(0, 0)])) 2 (l.length + 1) k).length = (l.length + 1) * 2 := moved_length _ _ _ _ (by rw [ndv_length]; simp) (by omega)
  by_cases hj : j < (l.length + 1) * 2
  · rw [ndv_get _ j (by simp; omega)]
    rw [List.getElem?_set, List.getElem?_set]
    by_cases h1 : k * 2 + 1 = j
    · have h2 : j % 2 = 1 := by omega
      have h3 : j / 2 = k := by omega
      rw [if_pos h1, if_pos (by simp [hml]; omega)]
      simp [ndc, h2, h3, List.getElem?_append, Nat.min_eq_left h]
    · rw [if_neg h1]
      by_cases h2 : k * 2 = j
      · have h4 : j % 2 = 0 := by omega
        have h3 : j / 2 = k := by omega
        rw [if_pos h2, if_pos (by rw [hml]; omega)]
        simp [ndc, h4, h3, List.getElem?_append, Nat.min_eq_left h]
      · rw [if_neg h2]
        unfold moved
        rw [List.getElem?_append, List.length_take, ndv_length, List.getElem?_take, List.getElem?_take, List.getElem?_drop]
        have hl2 : (l ++ [((0 : Int), (0 : Int))]).length = l.length + 1 := by simp
        rw [hl2]
        by_cases h5 : j < (k + 1) * 2
        · rw [if_pos (by omega), if_pos h5, ndv_get _ j (by rw [hl2]; omega)]
          have h6 : j / 2 < k := by omega
          simp [ndc, List.getElem?_append, Nat.min_eq_left h, h6, show j / 2 < l.length by omega, List.getElem?_take]
        · rw [if_neg (by omega), if_pos (by omega), ndv_get _ _ (by rw [hl2]; omega)]
          have e1 : (k * 2 + (j - min ((k + 1) * 2) ((l.length + 1) * 2))) = j - 2 := by omega
          rw [e1]
          have h6 : (j - 2) % 2 = j % 2 := by omega
          obtain ⟨q, hq⟩ : ∃ q, j / 2 = k + 1 + q := ⟨j / 2 - (k + 1), by omega⟩
          have h7 : (j - 2) / 2 = k + q := by omega
          have h8 : ¬ k + 1 + q < k := by omega
          have h9 : k + 1 + q - k = q + 1 := by omega
          have h11 : k + q < l.length := by omega
          have g1 : (l ++ [((0 : Int), (0 : Int))]).getD (k + q) (0, 0) = l.getD (k + q) (0, 0) := by
            simp [List.getElem?_append, h11]
          have g2 : (l.take k ++ (x, n) :: l.drop k).getD (k + 1 + q) (0, 0) = l.getD (k + q) (0, 0) := by
            rw [List.getD_eq_getElem?_getD, List.getElem?_append_right (by rw [List.length_take, Nat.min_eq_left h]; omega), List.length_take, Nat.min_eq_left h, h9, List.getElem?_cons_succ, List.getElem?_drop, List.getD_eq_getElem?_getD]
          unfold ndc
          rw [h6, h7, hq, g1, g2]
  · rw [List.getElem?_eq_none (by simp [hml]; omega), List.getElem?_eq_none (by rw [ndv_length]; simp; omega)]

theorem ndz_ones (l : List Rg) : ∀ u ∈ ndv l ++ [Value.int .i64 0, Value.int .i64 0], u.oneCell' = true := by
  intro u hu
  rcases List.mem_append.1 hu with hu | hu
  · unfold ndv at hu
    obtain ⟨p, _, hp⟩ := List.mem_flatMap.1 hu
    simp at hp
    rcases hp with rfl | rfl <;> rfl
  · simp at hu
    subst hu
    rfl
theorem own_succ {w : World} {base : Nat} {e : TypeId} {size m : Nat} {v : Value} {xs : List Value} (h : w.ownsRow base e size v (m + 1) xs) : ∃ b c, v = .slice (some ⟨b, 0, none⟩) (m + 1) c ∧ m + 1 ≤ c ∧ b < w.heap.size := by
  rcases h.2 with ⟨_, h0⟩ | ⟨g, cap, cur, rfl, _, hg, h1, _⟩
  · omega
  · exact ⟨g, cap, rfl, h1, (Array.getElem?_eq_some_iff.1 hg).1⟩
theorem bag_grown {w2 w3 : World} {g : Nat} {L t : Int} {l : List Rg} {v : Value} (h : BagT w2 g L t l v) (hg : w2.grownBy w3 v.ownBlock) : Blk w3 g 67 #[.int .i64 L, .int .i64 t, v] :=
  (hg.block g h.blk.lt fun e => h.ne g e.symm rfl).trans h.blk

set_option maxRecDepth 100000 in
set_option maxHeartbeats 4000000 in
theorem put_c (x n : Int) (g : Nat) (L : Int) (l : List Rg) (v : Value) (w : World) (h : BagAt w g L l v) (ho : Ok l) (hl : l.length ≤ 1000) (hn : 1 ≤ n) (hm : n ≤ 72057594037927935 - tot l) :
    Calls Try.prog 40 #[.pointer (some ⟨g, 0, none⟩), .int .i64 x, .int .i64 n] w fun e w' => (∃ r, e = .returned r) ∧ Bagged w g L (put x n l) v w' := by
  obtain ⟨w1, hw1⟩ : ∃ w1, w1 = w.setCell ⟨g, 1, none⟩ (.int .i64 (tot l + n)) := ⟨_, rfl⟩
  have h1 : BagT w1 g L (tot l + n) l v := by rw [hw1]; exact h.total _
  have hP := place_c x g L (tot l + n) l v w1 h1 ho (by omega)
  have ht1 : Turn (Foot g v) w w1 := by rw [hw1]; exact Turn.setCell w _ ⟨g, 1, none⟩ _ (.inl rfl)
  have htot := tot_put x n l
  have hlo := lo_le x l
  obtain ⟨k, hk⟩ : ∃ k, lo x l = k := ⟨_, rfl⟩
  have hk0 := hide hk
  rw [hk] at hP hlo
  obtain ⟨c0, c1, c2, f1, f2, hg⟩ := bag_cells h
  have hwr : IntKind.i64.wrap (tot l + n) = tot l + n := by have := tot_nonneg l ho.pos; exact IntWalk.i64_in _ (by omega)
  have ht0 := tot_nonneg l ho.pos
  have hw1h : Hid (w1 = w.setCell ⟨g, 1, none⟩ (.int .i64 (tot l + n))) := hw1
  have hnew : ¬ (∃ hk2 : k < l.length, l[k].1 = x) → Hid (put x n l = l.take k ++ (x, n) :: l.drop k) := fun hno => by
    subst hk
    exact put_new x n l fun h e => hno ⟨h, e⟩
  have hold : ∀ hk2 : k < l.length, l[k].1 = x → Hid (put x n l = l.set k (x, l[k].2 + n)) := fun hk2 e => by
    subst hk
    exact put_same x n l hk2 e
  clear hk
  by_cases hfd : ∃ hk2 : k < l.length, l[k].1 = x
  · obtain ⟨hk2, hx⟩ := hfd
    replace hold := hold hk2 hx
    clear hnew
    have hset := hide (ndv_set l k x (l[k].2 + n) hk2 hx)
    obtain ⟨b, c, hv, d0, d1⟩ := h.at hk2
    have hle := tot_le l ho.pos l[k] (List.getElem_mem hk2)
    have hge := ho.pos l[k] (List.getElem_mem hk2)
    have hlen : Hid ((l.set k (x, l[k].2 + n)).length = l.length) := by show _ = _; simp
    have hcells : Hid (∀ W, BagT W g L (tot l + n) l v → W.cell? ⟨g, 2, none⟩ = some (.slice (some ⟨b, 0, none⟩) l.length c) ∧ W.ownsRow 0 31 2 (.slice (some ⟨b, 0, none⟩) l.length c) l.length (ndv l) ∧ W.cell? ⟨b, k * 2, none⟩ = some (.int .i64 x) ∧ W.cell? ⟨b, k * 2 + 1, none⟩ = some (.int .i64 l[k].2)) := by
      intro W hW
      have h2 := (bag_cells hW).2.2.1
      have h3 := hW.own
      obtain ⟨b', c', e, q0, q1⟩ := hW.at hk2
      rw [hv] at h2 h3 e
      injection e with e1 _ e2
      injection e1 with e1
      injection e1 with e1
      subst e1 e2
      exact ⟨h2, h3, by rw [← hx]; exact q0, q1⟩
    generalize l[k].2 = y at *
    replace hP := hide hP
    replace htot := hide htot
    have hk1 : (k : Int) < (l.length : Int) := by omega
    have hne := h.ne
    have hgb : g ≠ b := fun e => hne b (by rw [hv]; rfl) e.symm
    have hwy : IntKind.i64.wrap (y + n) = y + n := IntWalk.i64_in _ (by omega)
    rw [hv] at c2
    clear hw1 hx d0 d1
    generalize hql : tot l = tl at *
    replace hql := hide hql
    replace hv := hide hv
    go_enter Try.func40, Try.ntmps40
    go_wp2_with fail
    rw [← hw1h.out]
    refine hP.out.mono ?_
    rintro e w2 ⟨rfl, hb2⟩
    have h2 := h1.kept hb2
    obtain ⟨e0, e1, -, f1, f2, hg2⟩ := bag_cells h2
    obtain ⟨e2, how2, d0, d1⟩ := hcells.out _ h2
    have f3 : w2.frozen? ⟨b, k * 2 + 1, none⟩ = false := how2.frozenAt _
    have hb3 := (how2.lt b rfl).2
    have ht2 := ht1.trans (Below.turn hb2 (fun j => j = b)) (fun j hj e => by subst e; exact .inr (by rw [hv.out]; rfl))
    have hs7 : Hid (BagT (w2.setCell ⟨b, k * 2 + 1, none⟩ (.int .i64 (y + n))) g L (tl + n) (l.set k (x, y + n)) v ∧ Turn (Foot g v) w (w2.setCell ⟨b, k * 2 + 1, none⟩ (.int .i64 (y + n)))) := by
      have s1 := (how2.stored (k * 2 + 1) (.int .i64 (y + n))).1
      rw [hset.out] at s1
      refine ⟨⟨h2.blk.off (p := ⟨b, k * 2 + 1, none⟩) hgb _, by rw [hlen.out, hv.out]; exact s1⟩, ?_⟩
      exact ht2.trans (Turn.setCell _ (fun j => j = b) ⟨b, k * 2 + 1, none⟩ _ rfl) (fun j hj e => by subst e; exact .inr (by rw [hv.out]; rfl))
    replace how2 := hide how2
    go_wp2_with fail
    refine bodyPost_ret (results_none rfl _ _ _) rfl ?_
    obtain ⟨r1, r2⟩ := hs7.out
    rw [← hold.out] at r1
    rw [← htot.out] at r1
    exact ⟨⟨_, rfl⟩, _, r1, r2, fun j hj => .inl hj⟩
  · replace hnew := hnew hfd
    clear hold
    have hlen : Hid ((l.take k ++ (x, n) :: l.drop k).length = l.length + 1) := by show _ = _; simp; omega
    have hmv := hide (ndv_moved l k x n hlo)
    replace hP := hide hP
    replace htot := hide htot
    have hk1 : (k : Int) ≤ (l.length : Int) := by omega
    have hll : (l.length : Int) ≤ 1000 := by omega
    clear hw1
    generalize hql : tot l = tl at *
    replace hql := hide hql
    obtain ⟨A, c, hv⟩ := h.form
    have how0 : Hid (∀ W, BagT W g L (tl + n) l v → W.cell? ⟨g, 2, none⟩ = some (.slice A l.length c) ∧ W.ownsRow 0 31 2 (.slice A l.length c) l.length (ndv l)) := by
      intro W hW
      have := (bag_cells hW).2.2.1
      have h3 := hW.own
      rw [hv] at this h3
      exact ⟨this, h3⟩
    rw [hv] at c2
    have hd : Hid (∀ W, BagT W g L (tl + n) l v → ∀ hkl : k < l.length, ∃ b, A = some ⟨b, 0, none⟩ ∧ W.cell? ⟨b, k * 2, none⟩ = some (.int .i64 l[k].1) ∧ b < W.heap.size) := by
      intro W hW hkl
      obtain ⟨b, c', e, d0, _⟩ := hW.at hkl
      rw [hv] at e
      injection e with e1 _ _
      exact ⟨b, e1, d0, World.block_lt_of_cell? W _ d0⟩
    replace hv := hide hv
    by_cases hkl : k < l.length
    · have hkl2 : (k : Int) < (l.length : Int) := by omega
      obtain ⟨y, hy⟩ : ∃ y, l[k].1 = y := ⟨_, rfl⟩
      have hyx : (y == x) = false := by simpa using fun e => hfd ⟨hkl, hy.trans e⟩
      replace hy := hide hy
      clear hfd
      go_enter Try.func40, Try.ntmps40
      go_wp2_with fail
      rw [← hw1h.out]
      refine hP.out.mono ?_
      rintro e w2 ⟨rfl, hb2⟩
      have h2 := h1.kept hb2
      obtain ⟨e0, e1, -, f1, f2, hg2⟩ := bag_cells h2
      obtain ⟨b0, rfl, d0, hb0⟩ := hd.out _ h2 hkl
      rw [hy.out] at d0
      obtain ⟨e2, how2⟩ := how0.out _ h2
      go_wp2_with (at_builtin; go_loud (refine wpList_app1 elRg rfl (.tmp 53) (.tmp 55) rfl 0 _ _ _ [.int .i64 0, .int .i64 0] 31 rfl how2 rfl rfl (one2 rfl rfl) (by omega) (by omega) ?_); intro v1 w3 how3 hb3 hgr3 hat3; rw [← hv.out] at hgr3 hat3; go_loud (obtain ⟨b, cb, rfl, hcb, hbl⟩ := own_succ how3); go_loud (have hbk := bag_grown h2 hgr3); go_loud (have q2 : w3.cell? ⟨g, 2, none⟩ = some _ := (by rw [hbk.cell]; rfl)); rw [hv.out] at q2; have qf := hbk.free 2; have hg3 := hbk.lt)
      have hb4 : Blk (w3.setCell ⟨g, 2, none⟩ (.slice (some ⟨b, 0, none⟩) (l.length + 1) cb)) g 67 #[.int .i64 L, .int .i64 (tl + n), .slice (some ⟨b, 0, none⟩) (l.length + 1) cb] := by
        have := hbk.set 2 (.slice (some ⟨b, 0, none⟩) (l.length + 1) cb)
        simpa using this
      have hbg : b ≠ g := by
        rcases hat3 with e | e
        · exact h2.ne b e.symm
        · simp only [Value.ownBlock, Option.some.injEq] at e; omega
      have how4 : (w3.setCell ⟨g, 2, none⟩ (.slice (some ⟨b, 0, none⟩) (l.length + 1) cb)).ownsRow 0 31 2 (.slice (some ⟨b, 0, none⟩) (l.length + 1) cb) (l.length + 1) (ndv l ++ [.int .i64 0, .int .i64 0]) :=
        own_turned how3 (Turn.setCell w3 (fun j => j = g) ⟨g, 2, none⟩ _ rfl) fun j hj => by simp only [Value.ownBlock, Option.some.injEq] at hj; omega
      have ht4 : Turn (Foot g v) w (w3.setCell ⟨g, 2, none⟩ (.slice (some ⟨b, 0, none⟩) (l.length + 1) cb)) := by
        refine (((ht1.trans (Below.turn hb2 _) fun _ _ h => h).trans (Turn.grown w2 w3 (Foot g v) _ hgr3 fun k hk => .inr hk) fun _ _ h => h)).trans (Turn.setCell w3 _ ⟨g, 2, none⟩ _ (.inl rfl)) fun _ _ h => h
      have hfr : ∀ j, (Value.slice (some ⟨b, 0, none⟩) (l.length + 1) cb).ownBlock = some j → v.ownBlock = some j ∨ w.heap.size ≤ j := by
        intro j hj
        rcases hat3 with e | e
        · exact .inl (e.symm.trans hj)
        · have s1 := ht1.size
          have s2 := hb2.size
          rw [e] at hj
          simp only [Option.some.injEq] at hj
          exact .inr (by omega)
      generalize w3.setCell ⟨g, 2, none⟩ (.slice (some ⟨b, 0, none⟩) (l.length + 1) cb) = w4 at *
      refine wp_still_tail 13 (by kernel_rfl) (by kernel_rfl) ?_
      intro V hV
      have hb5 : Blk V g 67 #[.int .i64 L, .int .i64 (tl + n), .slice (some ⟨b, 0, none⟩) (l.length + 1) cb] := by rw [hV]; exact hb4
      have how5 : V.ownsRow 0 31 2 (.slice (some ⟨b, 0, none⟩) (l.length + 1) cb) (l.length + 1) (ndv l ++ [.int .i64 0, .int .i64 0]) := by rw [hV]; exact how4
      have ht5 : Turn (Foot g v) w V := by rw [hV]; exact ht4.drewN 1
      have z0 : V.cell? ⟨g, 2, none⟩ = some (.slice (some ⟨b, 0, none⟩) (l.length + 1) cb) := by rw [hb5.cell]; rfl
      have z1 : g < V.heap.size := hb5.lt
      clear hV e0 e1 e2 f1 f2 hg2 q2 qf hg3 hb4 how4 ht4 how3 how2 hbk hgr3 hb3 hb2 c0 c1 c2 hg h2 h1 ht1 hat3
      simp only [List.take_succ_cons, List.take_zero, List.drop_succ_cons, List.drop_zero]
      have hwk := IntWalk.i64_in ((k : Int) + 1) ⟨by omega, by omega⟩
      have k1 : 0 ≤ (k : Int) + 1 := by omega
      have k2 : ((k : Int) + 1).toNat = k + 1 := by omega
      have k3 : k + 1 ≤ cb := by omega
      have k4 : k + 1 ≤ l.length + 1 := by omega
      have k5 : k ≤ l.length + 1 := by omega
      have k6 : k ≤ cb := by omega
      have k7 : (k : Int) ≤ (l.length : Int) + 1 := by omega
      have k8 : ¬ cb = k := by omega
      have hcap : ¬ k + 1 = cb := by omega
      have hcap2 : ¬ cb = k + 1 := by omega
      repeat still_step
      refine wpStill_nil ?_
      refine wpList_shift elRg rfl (.tmp 65) (.tmp 71) rfl 0 b (l.length + 1) cb k _ how5 (by omega) _ _ _ _ _ rfl (by omega) (fun _ => rfl) rfl (by omega) (ndz_ones l) ?_
      intro w6 u how6 hgr6
      have hb6 : Blk w6 g 67 #[.int .i64 L, .int .i64 (tl + n), .slice (some ⟨b, 0, none⟩) (l.length + 1) cb] := (hgr6.block g hb5.lt fun e => by injection e with e; exact hbg e.symm).trans hb5
      have ht6 : Turn (Foot g v) w w6 := ht5.trans (Turn.grown V w6 (fun j => j = b) _ hgr6 fun j hj => by injection hj with hj; exact hj.symm) fun j hj e => by
        subst e
        rcases hfr j rfl with e | e
        · exact .inr e
        · omega
      have y0 : w6.cell? ⟨g, 2, none⟩ = some (.slice (some ⟨b, 0, none⟩) (l.length + 1) cb) := by rw [hb6.cell]; rfl
      have y1 : g < w6.heap.size := hb6.lt
      have y2 : b < w6.heap.size := (how6.lt b rfl).2
      have y3 : w6.frozen? ⟨b, k * 2, none⟩ = false := how6.frozenAt _
      have y4 : w6.frozen? ⟨b, k * 2 + 1, none⟩ = false := how6.frozenAt _
      have hml : (moved (ndv l ++ [Value.int .i64 0, Value.int .i64 0]) 2 (l.length + 1) k).length = (l.length + 1) * 2 := moved_length _ _ _ _ (by simp [ndv_length]; omega) (by omega)
      have y5 := how6.cellAt (k * 2) (by omega)
      have y6 := how6.cellAt (k * 2 + 1) (by omega)
      rw [List.getElem?_eq_getElem (by omega)] at y5 y6
      generalize (moved (ndv l ++ [Value.int .i64 0, Value.int .i64 0]) 2 (l.length + 1) k)[k * 2]'(by omega) = u0 at y5
      generalize (moved (ndv l ++ [Value.int .i64 0, Value.int .i64 0]) 2 (l.length + 1) k)[k * 2 + 1]'(by omega) = u1 at y6
      have k9 : (k : Int) < (l.length : Int) + 1 := by omega
      have hs7 : Hid (BagT ((w6.setCell ⟨b, k * 2, none⟩ (.int .i64 x)).setCell ⟨b, k * 2 + 1, none⟩ (.int .i64 n)) g L (tl + n) (l.take k ++ (x, n) :: l.drop k) (.slice (some ⟨b, 0, none⟩) (l.length + 1) cb) ∧
          Turn (Foot g v) w ((w6.setCell ⟨b, k * 2, none⟩ (.int .i64 x)).setCell ⟨b, k * 2 + 1, none⟩ (.int .i64 n))) := by
        have s1 := how6.stored (k * 2) (.int .i64 x)
        have s2 := s1.1.stored (k * 2 + 1) (.int .i64 n)
        rw [hmv.out] at s2
        refine ⟨⟨(hb6.off (p := ⟨b, k * 2, none⟩) hbg.symm _).off (p := ⟨b, k * 2 + 1, none⟩) hbg.symm _, by rw [hlen.out]; exact s2.1⟩, ?_⟩
        have hbS : ∀ j, j < w.heap.size → j = b → Foot g v j := fun j hj e => by
          subst e
          rcases hfr j rfl with e | e
          · exact .inr e
          · omega
        exact (ht6.trans (Turn.setCell _ (fun j => j = b) ⟨b, k * 2, none⟩ _ rfl) hbS).trans (Turn.setCell _ (fun j => j = b) ⟨b, k * 2 + 1, none⟩ _ rfl) hbS
      replace how6 := hide how6
      clear hmv hb6 hgr6 ht6 ht5 hb5 how5 hml z0 z1
      go_wp2_with fail
      go_end0
      obtain ⟨r1, r2⟩ := hs7.out
      rw [← hnew.out] at r1
      rw [← htot.out] at r1
      exact ⟨⟨_, rfl⟩, _, r1, r2, hfr⟩
    · have hkl2 : ¬ (k : Int) < (l.length : Int) := by omega
      clear hfd
      go_enter Try.func40, Try.ntmps40
      go_wp2_with fail
      rw [← hw1h.out]
      refine hP.out.mono ?_
      rintro e w2 ⟨rfl, hb2⟩
      have h2 := h1.kept hb2
      obtain ⟨e0, e1, -, f1, f2, hg2⟩ := bag_cells h2
      obtain ⟨e2, how2⟩ := how0.out _ h2
      go_wp2_with (at_builtin; go_loud (refine wpList_app1 elRg rfl (.tmp 53) (.tmp 55) rfl 0 _ _ _ [.int .i64 0, .int .i64 0] 31 rfl how2 rfl rfl (one2 rfl rfl) (by omega) (by omega) ?_); intro v1 w3 how3 hb3 hgr3 hat3; rw [← hv.out] at hgr3 hat3; go_loud (obtain ⟨b, cb, rfl, hcb, hbl⟩ := own_succ how3); go_loud (have hbk := bag_grown h2 hgr3); go_loud (have q2 : w3.cell? ⟨g, 2, none⟩ = some _ := (by rw [hbk.cell]; rfl)); rw [hv.out] at q2; have qf := hbk.free 2; have hg3 := hbk.lt)
      have hb4 : Blk (w3.setCell ⟨g, 2, none⟩ (.slice (some ⟨b, 0, none⟩) (l.length + 1) cb)) g 67 #[.int .i64 L, .int .i64 (tl + n), .slice (some ⟨b, 0, none⟩) (l.length + 1) cb] := by
        have := hbk.set 2 (.slice (some ⟨b, 0, none⟩) (l.length + 1) cb)
        simpa using this
      have hbg : b ≠ g := by
        rcases hat3 with e | e
        · exact h2.ne b e.symm
        · simp only [Value.ownBlock, Option.some.injEq] at e; omega
      have how4 : (w3.setCell ⟨g, 2, none⟩ (.slice (some ⟨b, 0, none⟩) (l.length + 1) cb)).ownsRow 0 31 2 (.slice (some ⟨b, 0, none⟩) (l.length + 1) cb) (l.length + 1) (ndv l ++ [.int .i64 0, .int .i64 0]) :=
        own_turned how3 (Turn.setCell w3 (fun j => j = g) ⟨g, 2, none⟩ _ rfl) fun j hj => by simp only [Value.ownBlock, Option.some.injEq] at hj; omega
      have ht4 : Turn (Foot g v) w (w3.setCell ⟨g, 2, none⟩ (.slice (some ⟨b, 0, none⟩) (l.length + 1) cb)) := by
        refine (((ht1.trans (Below.turn hb2 _) fun _ _ h => h).trans (Turn.grown w2 w3 (Foot g v) _ hgr3 fun k hk => .inr hk) fun _ _ h => h)).trans (Turn.setCell w3 _ ⟨g, 2, none⟩ _ (.inl rfl)) fun _ _ h => h
      have hfr : ∀ j, (Value.slice (some ⟨b, 0, none⟩) (l.length + 1) cb).ownBlock = some j → v.ownBlock = some j ∨ w.heap.size ≤ j := by
        intro j hj
        rcases hat3 with e | e
        · exact .inl (e.symm.trans hj)
        · have s1 := ht1.size
          have s2 := hb2.size
          rw [e] at hj
          simp only [Option.some.injEq] at hj
          exact .inr (by omega)
      generalize w3.setCell ⟨g, 2, none⟩ (.slice (some ⟨b, 0, none⟩) (l.length + 1) cb) = w4 at *
      refine wp_still_tail 13 (by kernel_rfl) (by kernel_rfl) ?_
      intro V hV
      have hb5 : Blk V g 67 #[.int .i64 L, .int .i64 (tl + n), .slice (some ⟨b, 0, none⟩) (l.length + 1) cb] := by rw [hV]; exact hb4
      have how5 : V.ownsRow 0 31 2 (.slice (some ⟨b, 0, none⟩) (l.length + 1) cb) (l.length + 1) (ndv l ++ [.int .i64 0, .int .i64 0]) := by rw [hV]; exact how4
      have ht5 : Turn (Foot g v) w V := by rw [hV]; exact ht4.drewN 1
      have z0 : V.cell? ⟨g, 2, none⟩ = some (.slice (some ⟨b, 0, none⟩) (l.length + 1) cb) := by rw [hb5.cell]; rfl
      have z1 : g < V.heap.size := hb5.lt
      clear hV e0 e1 e2 f1 f2 hg2 q2 qf hg3 hb4 how4 ht4 how3 how2 hbk hgr3 hb3 hb2 c0 c1 c2 hg h2 h1 ht1 hat3
      simp only [List.take_succ_cons, List.take_zero, List.drop_succ_cons, List.drop_zero]
      have hwk := IntWalk.i64_in ((k : Int) + 1) ⟨by omega, by omega⟩
      have k1 : 0 ≤ (k : Int) + 1 := by omega
      have k2 : ((k : Int) + 1).toNat = k + 1 := by omega
      have k3 : k + 1 ≤ cb := by omega
      have k4 : k + 1 ≤ l.length + 1 := by omega
      have k5 : k ≤ l.length + 1 := by omega
      have k6 : k ≤ cb := by omega
      have k7 : (k : Int) ≤ (l.length : Int) + 1 := by omega
      have k8 : ¬ cb = k := by omega
      by_cases hcap : k + 1 = cb
      · subst hcap
        repeat still_step
        refine wpStill_nil ?_
        refine wpList_shift elRg rfl (.tmp 65) (.tmp 71) rfl 0 b (l.length + 1) (k + 1) k _ how5 (by omega) _ _ _ _ _ rfl (by omega) (fun h => absurd h (by omega)) rfl (by omega) (ndz_ones l) ?_
        intro w6 u how6 hgr6
        have hb6 : Blk w6 g 67 #[.int .i64 L, .int .i64 (tl + n), .slice (some ⟨b, 0, none⟩) (l.length + 1) (k + 1)] := (hgr6.block g hb5.lt fun e => by injection e with e; exact hbg e.symm).trans hb5
        have ht6 : Turn (Foot g v) w w6 := ht5.trans (Turn.grown V w6 (fun j => j = b) _ hgr6 fun j hj => by injection hj with hj; exact hj.symm) fun j hj e => by
          subst e
          rcases hfr j rfl with e | e
          · exact .inr e
          · omega
        have y0 : w6.cell? ⟨g, 2, none⟩ = some (.slice (some ⟨b, 0, none⟩) (l.length + 1) (k + 1)) := by rw [hb6.cell]; rfl
        have y1 : g < w6.heap.size := hb6.lt
        have y2 : b < w6.heap.size := (how6.lt b rfl).2
        have y3 : w6.frozen? ⟨b, k * 2, none⟩ = false := how6.frozenAt _
        have y4 : w6.frozen? ⟨b, k * 2 + 1, none⟩ = false := how6.frozenAt _
        have hml : (moved (ndv l ++ [Value.int .i64 0, Value.int .i64 0]) 2 (l.length + 1) k).length = (l.length + 1) * 2 := moved_length _ _ _ _ (by simp [ndv_length]; omega) (by omega)
        have y5 := how6.cellAt (k * 2) (by omega)
        have y6 := how6.cellAt (k * 2 + 1) (by omega)
        rw [List.getElem?_eq_getElem (by omega)] at y5 y6
        generalize (moved (ndv l ++ [Value.int .i64 0, Value.int .i64 0]) 2 (l.length + 1) k)[k * 2]'(by omega) = u0 at y5
        generalize (moved (ndv l ++ [Value.int .i64 0, Value.int .i64 0]) 2 (l.length + 1) k)[k * 2 + 1]'(by omega) = u1 at y6
        have k9 : (k : Int) < (l.length : Int) + 1 := by omega
        have hs7 : Hid (BagT ((w6.setCell ⟨b, k * 2, none⟩ (.int .i64 x)).setCell ⟨b, k * 2 + 1, none⟩ (.int .i64 n)) g L (tl + n) (l.take k ++ (x, n) :: l.drop k) (.slice (some ⟨b, 0, none⟩) (l.length + 1) (k + 1)) ∧
            Turn (Foot g v) w ((w6.setCell ⟨b, k * 2, none⟩ (.int .i64 x)).setCell ⟨b, k * 2 + 1, none⟩ (.int .i64 n))) := by
          have s1 := how6.stored (k * 2) (.int .i64 x)
          have s2 := s1.1.stored (k * 2 + 1) (.int .i64 n)
          rw [hmv.out] at s2
          refine ⟨⟨(hb6.off (p := ⟨b, k * 2, none⟩) hbg.symm _).off (p := ⟨b, k * 2 + 1, none⟩) hbg.symm _, by rw [hlen.out]; exact s2.1⟩, ?_⟩
          have hbS : ∀ j, j < w.heap.size → j = b → Foot g v j := fun j hj e => by
            subst e
            rcases hfr j rfl with e | e
            · exact .inr e
            · omega
          exact (ht6.trans (Turn.setCell _ (fun j => j = b) ⟨b, k * 2, none⟩ _ rfl) hbS).trans (Turn.setCell _ (fun j => j = b) ⟨b, k * 2 + 1, none⟩ _ rfl) hbS
        replace how6 := hide how6
        clear hmv hb6 hgr6 ht6 ht5 hb5 how5 hml z0 z1
        go_wp2_with fail
        go_end0
        obtain ⟨r1, r2⟩ := hs7.out
        rw [← hnew.out] at r1
        rw [← htot.out] at r1
        exact ⟨⟨_, rfl⟩, _, r1, r2, hfr⟩
      · have hcap2 : ¬ cb = k + 1 := by omega
        repeat still_step
        refine wpStill_nil ?_
        refine wpList_shift elRg rfl (.tmp 65) (.tmp 71) rfl 0 b (l.length + 1) cb k _ how5 (by omega) _ _ _ _ _ rfl (by omega) (fun _ => rfl) rfl (by omega) (ndz_ones l) ?_
        intro w6 u how6 hgr6
        have hb6 : Blk w6 g 67 #[.int .i64 L, .int .i64 (tl + n), .slice (some ⟨b, 0, none⟩) (l.length + 1) cb] := (hgr6.block g hb5.lt fun e => by injection e with e; exact hbg e.symm).trans hb5
        have ht6 : Turn (Foot g v) w w6 := ht5.trans (Turn.grown V w6 (fun j => j = b) _ hgr6 fun j hj => by injection hj with hj; exact hj.symm) fun j hj e => by
          subst e
          rcases hfr j rfl with e | e
          · exact .inr e
          · omega
        have y0 : w6.cell? ⟨g, 2, none⟩ = some (.slice (some ⟨b, 0, none⟩) (l.length + 1) cb) := by rw [hb6.cell]; rfl
        have y1 : g < w6.heap.size := hb6.lt
        have y2 : b < w6.heap.size := (how6.lt b rfl).2
        have y3 : w6.frozen? ⟨b, k * 2, none⟩ = false := how6.frozenAt _
        have y4 : w6.frozen? ⟨b, k * 2 + 1, none⟩ = false := how6.frozenAt _
        have hml : (moved (ndv l ++ [Value.int .i64 0, Value.int .i64 0]) 2 (l.length + 1) k).length = (l.length + 1) * 2 := moved_length _ _ _ _ (by simp [ndv_length]; omega) (by omega)
        have y5 := how6.cellAt (k * 2) (by omega)
        have y6 := how6.cellAt (k * 2 + 1) (by omega)
        rw [List.getElem?_eq_getElem (by omega)] at y5 y6
        generalize (moved (ndv l ++ [Value.int .i64 0, Value.int .i64 0]) 2 (l.length + 1) k)[k * 2]'(by omega) = u0 at y5
        generalize (moved (ndv l ++ [Value.int .i64 0, Value.int .i64 0]) 2 (l.length + 1) k)[k * 2 + 1]'(by omega) = u1 at y6
        have k9 : (k : Int) < (l.length : Int) + 1 := by omega
        have hs7 : Hid (BagT ((w6.setCell ⟨b, k * 2, none⟩ (.int .i64 x)).setCell ⟨b, k * 2 + 1, none⟩ (.int .i64 n)) g L (tl + n) (l.take k ++ (x, n) :: l.drop k) (.slice (some ⟨b, 0, none⟩) (l.length + 1) cb) ∧
            Turn (Foot g v) w ((w6.setCell ⟨b, k * 2, none⟩ (.int .i64 x)).setCell ⟨b, k * 2 + 1, none⟩ (.int .i64 n))) := by
          have s1 := how6.stored (k * 2) (.int .i64 x)
          have s2 := s1.1.stored (k * 2 + 1) (.int .i64 n)
          rw [hmv.out] at s2
          refine ⟨⟨(hb6.off (p := ⟨b, k * 2, none⟩) hbg.symm _).off (p := ⟨b, k * 2 + 1, none⟩) hbg.symm _, by rw [hlen.out]; exact s2.1⟩, ?_⟩
          have hbS : ∀ j, j < w.heap.size → j = b → Foot g v j := fun j hj e => by
            subst e
            rcases hfr j rfl with e | e
            · exact .inr e
            · omega
          exact (ht6.trans (Turn.setCell _ (fun j => j = b) ⟨b, k * 2, none⟩ _ rfl) hbS).trans (Turn.setCell _ (fun j => j = b) ⟨b, k * 2 + 1, none⟩ _ rfl) hbS
        replace how6 := hide how6
        clear hmv hb6 hgr6 ht6 ht5 hb5 how5 hml z0 z1
        go_wp2_with fail
        go_end0
        obtain ⟨r1, r2⟩ := hs7.out
        rw [← hnew.out] at r1
        rw [← htot.out] at r1
        exact ⟨⟨_, rfl⟩, _, r1, r2, hfr⟩
end Go.Proofs.Ytkjihbaiofocgaa

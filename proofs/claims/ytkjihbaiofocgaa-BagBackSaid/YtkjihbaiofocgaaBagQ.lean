/- The walks of layer 10's reference, on: a value's weight more, added, poured, as an image. By the prover of this repo. -/
import Derived.Test.YtkjihbaiofocgaaBagR
namespace Go.Proofs.Ytkjihbaiofocgaa
open Go.RowKit
open TwigM BagM

theorem putR_nil (x n : Int) (d : Bool) : putR x n d [] = if d = true then [] else [(x, n)] := rfl
theorem putR_eq {x n : Int} {d : Bool} {p : Rg} {l : List Rg} (h : p.1 = x) : putR x n d (p :: l) = (p.1, p.2 + n) :: putR x n true l := if_pos h
theorem putR_in {x n : Int} {p : Rg} {l : List Rg} (h : ¬ p.1 = x) (h2 : x < p.1) : putR x n false (p :: l) = (x, n) :: p :: putR x n true l := by rw [putR, if_neg h, if_pos ⟨h2, rfl⟩]
theorem putR_on {x n : Int} {d : Bool} {p : Rg} {l : List Rg} (h : ¬ p.1 = x) (h2 : ¬ (x < p.1 ∧ d = false)) : putR x n d (p :: l) = p :: putR x n d l := by rw [putR, if_neg h, if_neg h2]
theorem box_grown {w w1 : World} {a b : Value} {t : TypeId} {base : Nat} {e : TypeId} {size n : Nat} {v : Value} {xs : List Value} (how : w.ownsRow base e size v n xs) (hg : (w.alloc (.cells #[a, b] t)).grownBy w1 v.ownBlock) :
    Blk w1 w.heap.size t #[a, b] :=
  (hg.block w.heap.size (by simp) fun e => by have := (how.lt _ e.symm).2; omega).trans (Blk.made w t #[a, b])

/-- What a round of the putting holds. -/
def PutRel (w1 : World) (n : Nat) (l : List Rg) (x m : Int) (G : List Rg) (out dn k : Value) (wr : World) : Prop :=
  ∃ (i : Nat) (acc : List Rg) (d : Bool), i ≤ n ∧ dn = .bool d ∧ k = .int .i64 i ∧ acc.length ≤ 2 * i ∧ wr.ownsRow w1.heap.size 31 2 out acc.length (ndv acc) ∧ Hid (acc ++ putR x m d (l.drop i) = G) ∧ Below w1.heap.size w1 wr

set_option maxRecDepth 100000 in
set_option maxHeartbeats 4000000 in
theorem rput_c (x m : Int) (L : Int) (l : List Rg) (v : Value) (w : World) (hv : Nds w v l) (ho : Ok l) (hl : l.length ≤ 100000) (hm : 1 ≤ m ∧ m ≤ 72057594037927935 - tot l) :
    Calls Try.prog 37 #[rb L v, .int .i64 x, .int .i64 m] w fun e w' => ∃ v', e = .returned (rb L v') ∧ w'.ownsRow w.heap.size 31 2 v' (put x m l).length (ndv (put x m l)) ∧ Below w.heap.size w w' := by
  have hpos := hide (fun p hp => tot_le l ho.pos p hp)
  have hpos1 := hide ho.pos
  have hput := hide (putR_put x m l ho.rise)
  have ht0 := tot_nonneg l ho.pos
  obtain ⟨A, c, rfl, _, _, _, hr⟩ := hv
  obtain ⟨n, hn⟩ : ∃ n, Hid (l.length = n) := ⟨_, rfl⟩
  rw [hn.out] at hl
  have hrn : Hid (Rd w A l.length 2 (ndc l)) := hr
  obtain ⟨m1, m2⟩ := hm
  generalize tot l = t at *
  rw [hn.out]
  clear hr ho
  go_enter Try.func37, Try.ntmps37
  go_wp2_with fail
  obtain ⟨w1, hw1⟩ : ∃ w1, w1 = (w.alloc (.cells #[.int .i64 L, .slice A n c] 29)).alloc (.cells #[.int .i64 0, .slice none 0 0] 29) := ⟨_, rfl⟩
  have hA := (Blk.made w 29 #[.int .i64 L, .slice A n c]).alloc (.cells #[.int .i64 0, .slice none 0 0] 29)
  have hB := Blk.made_at (w.alloc (.cells #[.int .i64 L, .slice A n c] 29)) 29 #[.int .i64 0, .slice none 0 0] (g := w.heap.size + 1) (by simp)
  have hb1 : Below w.heap.size w w1 := by rw [hw1]; exact balloc (balloc0 _ _) _
  have hz1 : w1.heap.size = w.heap.size + 2 := by rw [hw1]; simp
  rw [← hw1] at hA hB ⊢
  clear hw1
  go_loopw [7, 8, 9] (fun out dn k wr => PutRel w1 n l x m (put x m l) out dn k wr) (fun _ _ k _ => n - (intOf k).toNat)
  case atStart => exact ⟨0, [], false, by omega, rfl, rfl, by simp, World.ownsRow_nil _ _ _ _, by show _ = _; rw [List.drop_zero, List.nil_append]; exact hput.out, Below.refl _ _⟩
  case round =>
    obtain ⟨i, acc, d, hi, rfl, rfl, hacc, how, hgo, hbel⟩ := hrel
    have hAr := hA.below hbel (by omega)
    have hBr := hB.below hbel (by omega)
    have a1 : wr.cell? ⟨w.heap.size, 1, none⟩ = some (.slice A n c) := by rw [hAr.cell]; rfl
    have a0 : wr.cell? ⟨w.heap.size, 0, none⟩ = some (.int .i64 L) := by rw [hAr.cell]; rfl
    have a2 := hAr.lt
    have b2 := hBr.lt
    have hbz := hbel.size
    obtain ⟨ma, hma⟩ : ∃ ma, acc.length = ma := ⟨_, rfl⟩
    by_cases hlt : i < n
    · have hil : i < l.length := by rw [hn.out]; exact hlt
      obtain ⟨b, off, rfl, hb, c0, c1⟩ := rd_at (hrn.out.of_below (Nat.le_refl _) (hb1.trans (hbel.mono hb1.size))) hil
      have hp1 := hpos.out l[i] (List.getElem_mem hil)
      have hp2 := hpos1.out l[i] (List.getElem_mem hil)
      rw [List.drop_eq_getElem_cons hil] at hgo
      generalize l[i] = p at *
      obtain ⟨y, k⟩ := p
      simp only at c0 c1 hp1 hp2
      rw [hma] at hacc how
      replace hma := hide hma
      have hlenS : ∀ q : Rg, Hid ((acc ++ [q]).length = ma + 1) := fun q => by show _ = _; rw [List.length_append, hma.out]; rfl
      have hlenS2 : ∀ q q2 : Rg, Hid ((acc ++ [q] ++ [q2]).length = ma + 1 + 1) := fun q q2 => by show _ = _; rw [List.length_append, List.length_append, hma.out]; rfl
      have hnd : ∀ q : Rg, Hid (ndv acc ++ [.int .i64 q.1, .int .i64 q.2] = ndv (acc ++ [q])) := fun q => (ndv_snoc acc q).symm
      have hnd2 : ∀ q q2 : Rg, Hid (ndv (acc ++ [q]) ++ [.int .i64 q2.1, .int .i64 q2.2] = ndv (acc ++ [q] ++ [q2])) := fun q q2 => (ndv_snoc _ q2).symm
      have hob := how.lt
      by_cases hy : y = x
      · subst hy
        have hgo2 : Hid (acc ++ [(y, k + m)] ++ putR y m true (l.drop (i + 1)) = put y m l) := by show _ = _; rw [← hgo.out, putR_eq (p := (y, k)) rfl]; simp
        have how2 := hide (how.alloc (.cells #[.int .i64 y, .int .i64 (k + m)] 31))
        have hkm : k + m ≤ 72057594037927935 := by omega
        replace how := hide how
        clear hob
        go_wp2_with (at_builtin; go_loud (refine wpList_app1 elRg rfl (.tmp 46) (.tmp 48) rfl w1.heap.size _ _ _ [.int .i64 y, .int .i64 (k + m)] 31 rfl how2.out (show Value.slice (some ⟨wr.heap.size + 1, 0, none⟩) 1 1 = .slice (some ⟨(wr.alloc _).heap.size, 0, none⟩) 1 1 from by simp) rfl (nd_ones (y, k + m)) (by omega) (by simp; omega) ?_); intro v1 w5 how5 hb5 hgr5 hat5)
        go_roundw
        case rel => exact ⟨i + 1, acc ++ [(y, k + m)], true, by omega, rfl, by go_num, by rw [(hlenS _).out]; omega, by rw [(hlenS _).out, ← (hnd (y, k + m)).out]; exact how5, hgo2, (balloc hbel _).trans hb5⟩
        case measure => simp [intOf]; omega
      · have hyx : (y == x) = false := by simpa using hy
        by_cases hin : x < y ∧ d = false
        · obtain ⟨hxy, rfl⟩ := hin
          have hgo2 : Hid (acc ++ [(x, m)] ++ [(y, k)] ++ putR x m true (l.drop (i + 1)) = put x m l) := by show _ = _; rw [← hgo.out, putR_in (p := (y, k)) hy hxy]; simp
          have how2 := hide (how.alloc (.cells #[.int .i64 y, .int .i64 k] 31))
          have howh := hide how
          clear hob hy how
          go_wp2_with (first
            | (at_builtin; (refine wpList_app1 elRg rfl (.tmp 40) (.tmp 44) rfl w1.heap.size _ _ _ [.int .i64 x, .int .i64 m] 31 rfl how2.out (show Value.slice (some ⟨wr.heap.size + 1, 0, none⟩) 1 1 = .slice (some ⟨(wr.alloc _).heap.size, 0, none⟩) 1 1 from by simp) rfl (nd_ones (x, m)) (by omega) (by simp; omega) ?_); intro v1 w5 how5 hb5 hgr5 hat5; have hbx := box_grown howh.out hgr5; have q0 : w5.cell? ⟨wr.heap.size, 0, none⟩ = some (.int .i64 y) := (by rw [hbx.cell]; rfl); have q1 : w5.cell? ⟨wr.heap.size, 1, none⟩ = some (.int .i64 k) := (by rw [hbx.cell]; rfl); have q2 := hbx.lt; have hz5 := hb5.size; simp only [World.size_alloc] at hz5; replace how5 := hide how5; clear hgr5 hat5)
            | (at_builtin; (refine wpList_app1 elRg rfl (.tmp 46) (.tmp 48) rfl w1.heap.size _ _ _ [.int .i64 y, .int .i64 k] 31 rfl how5.out rfl rfl (nd_ones (y, k)) (by omega) (by omega) ?_); intro v2 w6 how6 hb6 hgr6 hat6))
          go_roundw
          case rel => exact ⟨i + 1, acc ++ [(x, m)] ++ [(y, k)], true, by omega, rfl, by go_num, by rw [(hlenS2 _ _).out]; omega, by rw [(hlenS2 _ _).out, ← (hnd2 _ (y, k)).out, ← (hnd (x, m)).out]; exact how6, hgo2, ((balloc hbel _).trans hb5).trans hb6⟩
          case measure => simp [intOf]; omega
        · have hgo2 : Hid (acc ++ [(y, k)] ++ putR x m d (l.drop (i + 1)) = put x m l) := by show _ = _; rw [← hgo.out, putR_on (p := (y, k)) hy hin]; simp
          have how2 := hide (how.alloc (.cells #[.int .i64 y, .int .i64 k] 31))
          have hcase : (¬ x < y) ∨ (x < y ∧ d = true) := by
            by_cases h1 : x < y
            · cases d
              · exact absurd ⟨h1, rfl⟩ hin
              · exact .inr ⟨h1, rfl⟩
            · exact .inl h1
          clear hob hy hin how
          rcases hcase with hxy | ⟨hxy, rfl⟩
          all_goals
            go_wp2_with (at_builtin; (refine wpList_app1 elRg rfl (.tmp 46) (.tmp 48) rfl w1.heap.size _ _ _ [.int .i64 y, .int .i64 k] 31 rfl how2.out (show Value.slice (some ⟨wr.heap.size + 1, 0, none⟩) 1 1 = .slice (some ⟨(wr.alloc _).heap.size, 0, none⟩) 1 1 from by simp) rfl (nd_ones (y, k)) (by omega) (by simp; omega) ?_); intro v1 w5 how5 hb5 hgr5 hat5)
            go_roundw
            case rel => exact ⟨i + 1, acc ++ [(y, k)], _, by omega, rfl, by go_num, by rw [(hlenS _).out]; omega, by rw [(hlenS _).out, ← (hnd (y, k)).out]; exact how5, hgo2, (balloc hbel _).trans hb5⟩
            case measure => simp [intOf]; omega
    · have hgo2 := hgo.out
      rw [List.drop_of_length_le (by rw [hn.out]; omega), putR_nil] at hgo2
      have b0 : wr.cell? ⟨w.heap.size + 1, 0, none⟩ = some (.int .i64 0) := by rw [hBr.cell]; rfl
      have b1 : wr.cell? ⟨w.heap.size + 1, 1, none⟩ = some (.slice none 0 0) := by rw [hBr.cell]; rfl
      have b3 := hBr.free 0
      have b4 := hBr.free 1
      cases d
      · have hres : Hid (acc ++ [(x, m)] = put x m l) := by show _ = _; simpa using hgo2
        have hlenS : Hid ((acc ++ [(x, m)]).length = ma + 1) := by show _ = _; rw [List.length_append, hma]; rfl
        have hnd : Hid (ndv acc ++ [.int .i64 x, .int .i64 m] = ndv (acc ++ [(x, m)])) := (ndv_snoc acc (x, m)).symm
        rw [hma] at how hacc
        replace how := hide how
        clear hgo2 hgo hma
        go_wp2_with (at_builtin; (refine wpList_app1 elRg rfl (.tmp 52) (.tmp 56) rfl w1.heap.size _ _ _ [.int .i64 x, .int .i64 m] 31 rfl how.out rfl rfl (nd_ones (x, m)) (by omega) (by omega) ?_); intro v1 w5 how5 hb5 hgr5 hat5; obtain ⟨A9, c9, rfl, _, _, _⟩ := own_form how5; have hb6 := hbel.trans hb5; have hA5 := hA.below hb6 (by omega); have hB5 := hB.below hb6 (by omega); have a0 : w5.cell? ⟨w.heap.size, 0, none⟩ = some (.int .i64 L) := (by rw [hA5.cell]; rfl); have a2 := hA5.lt; have b2 := hB5.lt; have b0 : w5.cell? ⟨w.heap.size + 1, 0, none⟩ = some (.int .i64 0) := (by rw [hB5.cell]; rfl); have b1 : w5.cell? ⟨w.heap.size + 1, 1, none⟩ = some (.slice none 0 0) := (by rw [hB5.cell]; rfl); have b3 := hB5.free 0; have b4 := hB5.free 1; replace how5 := hide how5)
        refine bodyPost_ret (v := rb L (.slice A9 (ma + 1) c9)) (by simp [results, Try.results37, go_sem, b0, b1]) rfl ⟨_, rfl, ?_, ?_⟩
        · rw [← hres.out]
          have h5 := how5.out
          rw [hnd.out, ← hlenS.out] at h5
          have := own_base (c := w.heap.size) (own_turned h5 ((Turn.setCell w5 (fun j => j = w.heap.size + 1) ⟨w.heap.size + 1, 0, none⟩ (.int .i64 L) rfl).trans (Turn.setCell _ (fun j => j = w.heap.size + 1) ⟨w.heap.size + 1, 1, none⟩ (.slice A9 (acc ++ [(x, m)]).length c9) rfl) fun _ _ h => h) fun j hj e => by have := (h5.lt j hj).1; omega) fun j hj => by have := (h5.lt j hj).1; omega
          rw [hlenS.out] at this
          rw [hlenS.out]
          exact this
        · exact ((hb1.trans (hb6.mono hb1.size)).setCell (by simp) _).setCell (by simp) _
      · have hres : Hid (acc = put x m l) := by show _ = _; simpa using hgo2
        have how0 := how
        rw [hma] at how hacc
        obtain ⟨A9, c9, rfl, _, _, _⟩ := own_form how
        replace how := hide how
        replace hma := hide hma
        clear hgo2 hgo how0
        go_wp2_with fail
        refine bodyPost_ret (v := rb L (.slice A9 ma c9)) (by simp [results, Try.results37, go_sem, b0, b1]) rfl ⟨_, rfl, ?_, ?_⟩
        · rw [← hres.out]
          have h5 := how.out
          rw [← hma.out] at h5
          have := own_base (c := w.heap.size) (own_turned h5 ((Turn.setCell wr (fun j => j = w.heap.size + 1) ⟨w.heap.size + 1, 0, none⟩ (.int .i64 L) rfl).trans (Turn.setCell _ (fun j => j = w.heap.size + 1) ⟨w.heap.size + 1, 1, none⟩ (.slice A9 acc.length c9) rfl) fun _ _ h => h) fun j hj e => by have := (h5.lt j hj).1; omega) fun j hj => by have := (h5.lt j hj).1; omega
          rw [hma.out] at this
          rw [hma.out]
          exact this
        · exact ((hb1.trans (hbel.mono hb1.size)).setCell (by simp) _).setCell (by simp) _
end Go.Proofs.Ytkjihbaiofocgaa

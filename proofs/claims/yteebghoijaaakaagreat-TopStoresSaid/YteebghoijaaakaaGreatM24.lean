/- Part 24 of the proof: texts joined by this repo's tools/merge2.py (RBag RImg). By the prover of this repo. -/
import Derived.Test.YteebghoijaaakaaGreatM10
import Derived.Test.YteebghoijaaakaaGreatM3
import Derived.Laws.StructEq
import Derived.Deep.RegionHeldLaw
import Derived.Deep.AppendLies
import Derived.Deep.DrawnRows
set_option linter.unusedVariables false
set_option linter.unusedSimpArgs false
/- The walks of layer 10's reference: a bag as a value; its total, ranks, a value's weight more, added, in a greater universe, as an image. By the prover of this repo. -/
namespace Go.Proofs.YteebghoijaaakaaGreat
namespace BG
open Go.RowKit
open TwigM BagM

theorem elRg : Elem Tryz.prog 51 110 (.agg #[.int .i64 0, .int .i64 0]) 2 16 := ⟨Tryz.underlying51, by kernel_rfl, rfl, by omega⟩
theorem ndv_range (l : List Rg) : (List.range (l.length * 2)).map (ndc l) = ndv l := by
  apply List.ext_getElem?
  intro i
  by_cases h : i < l.length * 2
  · rw [ndv_get l i h]; simp [h]
  · rw [List.getElem?_eq_none (by simp; omega), List.getElem?_eq_none (by rw [ndv_length]; omega)]
theorem ndc_one (l : List Rg) (i : Nat) : (ndc l i).oneCell' = true := rfl
theorem nd_ones (p : Rg) : ∀ u ∈ [Value.int .i64 p.1, Value.int .i64 p.2], u.oneCell' = true := one2 rfl rfl
/-- What is owned reads as a list. -/
theorem own_nds {w : World} {base : Nat} {v : Value} {l : List Rg} (h : w.ownsRow base 110 2 v l.length (ndv l)) : Nds w v l := by
  obtain ⟨A, c, rfl, h1, h2, h3⟩ := own_form h
  refine ⟨A, c, rfl, h1, h2, h3, (own_rd h).congr fun i hi => ?_⟩
  show (ndv l).getD i undef = _
  rw [List.getD_eq_getElem?_getD, ndv_get l i hi]
  rfl
section
variable {S T : Nat → Prop} {w w1 w2 : World}
theorem own_turned {base : Nat} {e : TypeId} {size : Nat} {v : Value} {n : Nat} {xs : List Value} (h : w.ownsRow base e size v n xs) (k : Turn S w w1) (hn : ∀ j, v.ownBlock = some j → ¬ S j) : w1.ownsRow base e size v n xs := by
  refine ⟨h.1, ?_⟩
  rcases h.2 with h2 | ⟨g, cap, cur, rfl, hb, hg, rest⟩
  · exact .inl h2
  · exact .inr ⟨g, cap, cur, rfl, hb, (k.block g (Array.getElem?_eq_some_iff.1 hg).1 (hn g rfl)).trans hg, rest⟩
theorem own_base {b c : Nat} {e : TypeId} {size : Nat} {v : Value} {n : Nat} {xs : List Value} (h : w.ownsRow b e size v n xs) (hc : ∀ j, v.ownBlock = some j → c ≤ j) : w.ownsRow c e size v n xs := by
  refine ⟨h.1, ?_⟩
  rcases h.2 with h2 | ⟨g, cap, cur, rfl, hb, rest⟩
  · exact .inl h2
  · exact .inr ⟨g, cap, cur, rfl, hc g rfl, rest⟩
end
/-- A bag of the reference as a value. -/
abbrev rb (L : Int) (v : Value) : Value := .agg #[.int .i64 L, v]
set_option maxRecDepth 100000 in
theorem rtotal_c (L : Int) (l : List Rg) (v : Value) (w : World) (hv : Nds w v l) (ho : Ok l) (hl : l.length ≤ 1000000) :
    Calls Tryz.prog 58 #[rb L v] w fun e w' => e = .returned (.int .i64 (tot l)) ∧ Below w.heap.size w w' := by
  have hm := ho.most
  have hpos := hide ho.pos
  obtain ⟨A, c, rfl, _, _, _, hr⟩ := hv
  obtain ⟨t, ht⟩ : ∃ t, tot l = t := ⟨_, rfl⟩
  rw [ht] at hm ⊢
  replace ht := hide ht
  obtain ⟨n, hn⟩ : ∃ n, Hid (l.length = n) := ⟨_, rfl⟩
  rw [hn.out] at hl
  have hrn : Hid (Rd (w.alloc (.cells #[.int .i64 L, .slice A n c] 53)) A l.length 2 (ndc l)) := hr.alloc _
  rw [hn.out]
  clear hr ho
  go_enter Tryz.func58, Tryz.ntmps58
  go_wp2_with fail
  go_loop [3, 4] (fun s k => ∃ (q : Int) (i : Nat), i ≤ n ∧ 0 ≤ q ∧ s = .int .i64 q ∧ k = .int .i64 i ∧ Hid (q + tot (l.drop i) = t)) (fun _ k => n - (intOf k).toNat)
  case atStart => exact ⟨0, 0, by omega, by omega, rfl, rfl, by show _ = _; rw [List.drop_zero, ht.out, Int.zero_add]⟩
  case round =>
    obtain ⟨q, i, hi, hq0, rfl, rfl, hgo⟩ := hrel
    by_cases hlt : i < n
    · have hil : i < l.length := by rw [hn.out]; exact hlt
      obtain ⟨b, off, rfl, hb, c0, c1⟩ := rd_at hrn.out hil
      have hp1 := hpos.out l[i] (List.getElem_mem hil)
      have hrest := tot_nonneg (l.drop (i + 1)) fun p hp => hpos.out p (List.mem_of_mem_drop hp)
      have hgo2 := hgo.out
      rw [List.drop_eq_getElem_cons hil, tot] at hgo2
      generalize l[i].2 = y at *
      have hgo3 : Hid (q + y + tot (l.drop (i + 1)) = t) := by show _ = _; omega
      have hle : q + y ≤ 72057594037927935 := by omega
      clear hgo2 hrest c0
      go_wp2_with fail
      go_round
      case rel => exact ⟨q + y, i + 1, by omega, by omega, rfl, by go_num, hgo3⟩
      case measure => simp [intOf]; omega
    · have hres : Hid (q = t) := by
        have := hgo.out
        rw [List.drop_of_length_le (by rw [hn.out]; omega), tot] at this
        show _ = _; omega
      go_wp2_with fail
      go_ret
      exact ⟨by rw [← hres.out]; rfl, balloc0 _ _⟩
theorem putR_nil (x n : Int) (d : Bool) : putR x n d [] = if d = true then [] else [(x, n)] := rfl
theorem putR_eq {x n : Int} {d : Bool} {p : Rg} {l : List Rg} (h : p.1 = x) : putR x n d (p :: l) = (p.1, p.2 + n) :: putR x n true l := if_pos h
theorem putR_in {x n : Int} {p : Rg} {l : List Rg} (h : ¬ p.1 = x) (h2 : x < p.1) : putR x n false (p :: l) = (x, n) :: p :: putR x n true l := by rw [putR, if_neg h, if_pos ⟨h2, rfl⟩]
theorem putR_on {x n : Int} {d : Bool} {p : Rg} {l : List Rg} (h : ¬ p.1 = x) (h2 : ¬ (x < p.1 ∧ d = false)) : putR x n d (p :: l) = p :: putR x n d l := by rw [putR, if_neg h, if_neg h2]
theorem box_grown {w w1 : World} {a b : Value} {t : TypeId} {base : Nat} {e : TypeId} {size n : Nat} {v : Value} {xs : List Value} (how : w.ownsRow base e size v n xs) (hg : (w.alloc (.cells #[a, b] t)).grownBy w1 v.ownBlock) :
    Blk w1 w.heap.size t #[a, b] :=
  (hg.block w.heap.size (by simp) fun e => by have := (how.lt _ e.symm).2; omega).trans (Blk.made w t #[a, b])
/-- What a round of the putting holds. -/
def PutRel (w1 : World) (n : Nat) (l : List Rg) (x m : Int) (G : List Rg) (out dn k : Value) (wr : World) : Prop :=
  ∃ (i : Nat) (acc : List Rg) (d : Bool), i ≤ n ∧ dn = .bool d ∧ k = .int .i64 i ∧ acc.length ≤ 2 * i ∧ wr.ownsRow w1.heap.size 110 2 out acc.length (ndv acc) ∧ Hid (acc ++ putR x m d (l.drop i) = G) ∧ Below w1.heap.size w1 wr
set_option maxRecDepth 100000 in
set_option maxHeartbeats 4000000 in
theorem rput_c (x m : Int) (L : Int) (l : List Rg) (v : Value) (w : World) (hv : Nds w v l) (ho : Ok l) (hl : l.length ≤ 100000) (hm : 1 ≤ m ∧ m ≤ 72057594037927935 - tot l) :
    Calls Tryz.prog 59 #[rb L v, .int .i64 x, .int .i64 m] w fun e w' => ∃ v', e = .returned (rb L v') ∧ w'.ownsRow w.heap.size 110 2 v' (put x m l).length (ndv (put x m l)) ∧ Below w.heap.size w w' := by
  have hpos := hide (fun p hp => tot_le l ho.pos p hp)
  have hpos1 := hide ho.pos
  have hput := hide (putR_put x m l ho.rise)
  have ht0 := tot_nonneg l ho.pos
  obtain ⟨A, c, rfl, _, _, _, hr⟩ := hv
  obtain ⟨n, hn⟩ : ∃ n, Hid (l.length = n) := ⟨_, rfl⟩
  rw [hn.out] at hl
  have hrn : Hid (Rd w A l.length 2 (ndc l)) := hr
  obtain ⟨m1, m2⟩ := hm
  generalize tot l = t at *
  rw [hn.out]
  clear hr ho
  go_enter Tryz.func59, Tryz.ntmps59
  go_wp2_with fail
  obtain ⟨w1, hw1⟩ : ∃ w1, w1 = (w.alloc (.cells #[.int .i64 L, .slice A n c] 53)).alloc (.cells #[.int .i64 0, .slice none 0 0] 53) := ⟨_, rfl⟩
  have hA := (Blk.made w 53 #[.int .i64 L, .slice A n c]).alloc (.cells #[.int .i64 0, .slice none 0 0] 53)
  have hB := Blk.made_at (w.alloc (.cells #[.int .i64 L, .slice A n c] 53)) 53 #[.int .i64 0, .slice none 0 0] (g := w.heap.size + 1) (by simp)
  have hb1 : Below w.heap.size w w1 := by rw [hw1]; exact balloc (balloc0 _ _) _
  have hz1 : w1.heap.size = w.heap.size + 2 := by rw [hw1]; simp
  rw [← hw1] at hA hB ⊢
  clear hw1
  go_loopw [7, 8, 9] (fun out dn k wr => PutRel w1 n l x m (put x m l) out dn k wr) (fun _ _ k _ => n - (intOf k).toNat)
  case atStart => exact ⟨0, [], false, by omega, rfl, rfl, by simp, World.ownsRow_nil _ _ _ _, by show _ = _; rw [List.drop_zero, List.nil_append]; exact hput.out, Below.refl _ _⟩
  case round =>
    obtain ⟨i, acc, d, hi, rfl, rfl, hacc, how, hgo, hbel⟩ := hrel
    have hAr := hA.below hbel (by omega)
    have hBr := hB.below hbel (by omega)
    have a1 : wr.cell? ⟨w.heap.size, 1, none⟩ = some (.slice A n c) := by rw [hAr.cell]; rfl
    have a0 : wr.cell? ⟨w.heap.size, 0, none⟩ = some (.int .i64 L) := by rw [hAr.cell]; rfl
    have a2 := hAr.lt
    have b2 := hBr.lt
    have hbz := hbel.size
    obtain ⟨ma, hma⟩ : ∃ ma, acc.length = ma := ⟨_, rfl⟩
    by_cases hlt : i < n
    · have hil : i < l.length := by rw [hn.out]; exact hlt
      obtain ⟨b, off, rfl, hb, c0, c1⟩ := rd_at (hrn.out.of_below (Nat.le_refl _) (hb1.trans (hbel.mono hb1.size))) hil
      have hp1 := hpos.out l[i] (List.getElem_mem hil)
      have hp2 := hpos1.out l[i] (List.getElem_mem hil)
      rw [List.drop_eq_getElem_cons hil] at hgo
      generalize l[i] = p at *
      obtain ⟨y, k⟩ := p
      simp only at c0 c1 hp1 hp2
      rw [hma] at hacc how
      replace hma := hide hma
      have hlenS : ∀ q : Rg, Hid ((acc ++ [q]).length = ma + 1) := fun q => by show _ = _; rw [List.length_append, hma.out]; rfl
      have hlenS2 : ∀ q q2 : Rg, Hid ((acc ++ [q] ++ [q2]).length = ma + 1 + 1) := fun q q2 => by show _ = _; rw [List.length_append, List.length_append, hma.out]; rfl
      have hnd : ∀ q : Rg, Hid (ndv acc ++ [.int .i64 q.1, .int .i64 q.2] = ndv (acc ++ [q])) := fun q => (ndv_snoc acc q).symm
      have hnd2 : ∀ q q2 : Rg, Hid (ndv (acc ++ [q]) ++ [.int .i64 q2.1, .int .i64 q2.2] = ndv (acc ++ [q] ++ [q2])) := fun q q2 => (ndv_snoc _ q2).symm
      have hob := how.lt
      by_cases hy : y = x
      · subst hy
        have hgo2 : Hid (acc ++ [(y, k + m)] ++ putR y m true (l.drop (i + 1)) = put y m l) := by show _ = _; rw [← hgo.out, putR_eq (p := (y, k)) rfl]; simp
        have how2 := hide (how.alloc (.cells #[.int .i64 y, .int .i64 (k + m)] 110))
        have hkm : k + m ≤ 72057594037927935 := by omega
        replace how := hide how
        clear hob
        go_wp2_with (at_builtin; go_loud (refine wpList_app1 elRg rfl (.tmp 46) (.tmp 48) rfl w1.heap.size _ _ _ [.int .i64 y, .int .i64 (k + m)] 110 rfl how2.out (show Value.slice (some ⟨wr.heap.size + 1, 0, none⟩) 1 1 = .slice (some ⟨(wr.alloc _).heap.size, 0, none⟩) 1 1 from by simp) rfl (nd_ones (y, k + m)) (by omega) (by simp; omega) ?_); intro v1 w5 how5 hb5 hgr5 hat5)
        go_roundw
        case rel => exact ⟨i + 1, acc ++ [(y, k + m)], true, by omega, rfl, by go_num, by rw [(hlenS _).out]; omega, by rw [(hlenS _).out, ← (hnd (y, k + m)).out]; exact how5, hgo2, (balloc hbel _).trans hb5⟩
        case measure => simp [intOf]; omega
      · have hyx : (y == x) = false := by simpa using hy
        by_cases hin : x < y ∧ d = false
        · obtain ⟨hxy, rfl⟩ := hin
          have hgo2 : Hid (acc ++ [(x, m)] ++ [(y, k)] ++ putR x m true (l.drop (i + 1)) = put x m l) := by show _ = _; rw [← hgo.out, putR_in (p := (y, k)) hy hxy]; simp
          have how2 := hide (how.alloc (.cells #[.int .i64 y, .int .i64 k] 110))
          have howh := hide how
          clear hob hy how
          go_wp2_with (first
            | (at_builtin; (refine wpList_app1 elRg rfl (.tmp 40) (.tmp 44) rfl w1.heap.size _ _ _ [.int .i64 x, .int .i64 m] 110 rfl how2.out (show Value.slice (some ⟨wr.heap.size + 1, 0, none⟩) 1 1 = .slice (some ⟨(wr.alloc _).heap.size, 0, none⟩) 1 1 from by simp) rfl (nd_ones (x, m)) (by omega) (by simp; omega) ?_); intro v1 w5 how5 hb5 hgr5 hat5; have hbx := box_grown howh.out hgr5; have q0 : w5.cell? ⟨wr.heap.size, 0, none⟩ = some (.int .i64 y) := (by rw [hbx.cell]; rfl); have q1 : w5.cell? ⟨wr.heap.size, 1, none⟩ = some (.int .i64 k) := (by rw [hbx.cell]; rfl); have q2 := hbx.lt; have hz5 := hb5.size; simp only [World.size_alloc] at hz5; replace how5 := hide how5; clear hgr5 hat5)
            | (at_builtin; (refine wpList_app1 elRg rfl (.tmp 46) (.tmp 48) rfl w1.heap.size _ _ _ [.int .i64 y, .int .i64 k] 110 rfl how5.out rfl rfl (nd_ones (y, k)) (by omega) (by omega) ?_); intro v2 w6 how6 hb6 hgr6 hat6))
          go_roundw
          case rel => exact ⟨i + 1, acc ++ [(x, m)] ++ [(y, k)], true, by omega, rfl, by go_num, by rw [(hlenS2 _ _).out]; omega, by rw [(hlenS2 _ _).out, ← (hnd2 _ (y, k)).out, ← (hnd (x, m)).out]; exact how6, hgo2, ((balloc hbel _).trans hb5).trans hb6⟩
          case measure => simp [intOf]; omega
        · have hgo2 : Hid (acc ++ [(y, k)] ++ putR x m d (l.drop (i + 1)) = put x m l) := by show _ = _; rw [← hgo.out, putR_on (p := (y, k)) hy hin]; simp
          have how2 := hide (how.alloc (.cells #[.int .i64 y, .int .i64 k] 110))
          have hcase : (¬ x < y) ∨ (x < y ∧ d = true) := by
            by_cases h1 : x < y
            · cases d
              · exact absurd ⟨h1, rfl⟩ hin
              · exact .inr ⟨h1, rfl⟩
            · exact .inl h1
          clear hob hy hin how
          rcases hcase with hxy | ⟨hxy, rfl⟩
          all_goals
            go_wp2_with (at_builtin; (refine wpList_app1 elRg rfl (.tmp 46) (.tmp 48) rfl w1.heap.size _ _ _ [.int .i64 y, .int .i64 k] 110 rfl how2.out (show Value.slice (some ⟨wr.heap.size + 1, 0, none⟩) 1 1 = .slice (some ⟨(wr.alloc _).heap.size, 0, none⟩) 1 1 from by simp) rfl (nd_ones (y, k)) (by omega) (by simp; omega) ?_); intro v1 w5 how5 hb5 hgr5 hat5)
            go_roundw
            case rel => exact ⟨i + 1, acc ++ [(y, k)], _, by omega, rfl, by go_num, by rw [(hlenS _).out]; omega, by rw [(hlenS _).out, ← (hnd (y, k)).out]; exact how5, hgo2, (balloc hbel _).trans hb5⟩
            case measure => simp [intOf]; omega
    · have hgo2 := hgo.out
      rw [List.drop_of_length_le (by rw [hn.out]; omega), putR_nil] at hgo2
      have b0 : wr.cell? ⟨w.heap.size + 1, 0, none⟩ = some (.int .i64 0) := by rw [hBr.cell]; rfl
      have b1 : wr.cell? ⟨w.heap.size + 1, 1, none⟩ = some (.slice none 0 0) := by rw [hBr.cell]; rfl
      have b3 := hBr.free 0
      have b4 := hBr.free 1
      cases d
      · have hres : Hid (acc ++ [(x, m)] = put x m l) := by show _ = _; simpa using hgo2
        have hlenS : Hid ((acc ++ [(x, m)]).length = ma + 1) := by show _ = _; rw [List.length_append, hma]; rfl
        have hnd : Hid (ndv acc ++ [.int .i64 x, .int .i64 m] = ndv (acc ++ [(x, m)])) := (ndv_snoc acc (x, m)).symm
        rw [hma] at how hacc
        replace how := hide how
        clear hgo2 hgo hma
        go_wp2_with (at_builtin; (refine wpList_app1 elRg rfl (.tmp 52) (.tmp 56) rfl w1.heap.size _ _ _ [.int .i64 x, .int .i64 m] 110 rfl how.out rfl rfl (nd_ones (x, m)) (by omega) (by omega) ?_); intro v1 w5 how5 hb5 hgr5 hat5; obtain ⟨A9, c9, rfl, _, _, _⟩ := own_form how5; have hb6 := hbel.trans hb5; have hA5 := hA.below hb6 (by omega); have hB5 := hB.below hb6 (by omega); have a0 : w5.cell? ⟨w.heap.size, 0, none⟩ = some (.int .i64 L) := (by rw [hA5.cell]; rfl); have a2 := hA5.lt; have b2 := hB5.lt; have b0 : w5.cell? ⟨w.heap.size + 1, 0, none⟩ = some (.int .i64 0) := (by rw [hB5.cell]; rfl); have b1 : w5.cell? ⟨w.heap.size + 1, 1, none⟩ = some (.slice none 0 0) := (by rw [hB5.cell]; rfl); have b3 := hB5.free 0; have b4 := hB5.free 1; replace how5 := hide how5)
        refine bodyPost_ret (v := rb L (.slice A9 (ma + 1) c9)) (by simp [results, Tryz.results59, go_sem, b0, b1]) rfl ⟨_, rfl, ?_, ?_⟩
        · rw [← hres.out]
          have h5 := how5.out
          rw [hnd.out, ← hlenS.out] at h5
          have := own_base (c := w.heap.size) (own_turned h5 ((Turn.setCell w5 (fun j => j = w.heap.size + 1) ⟨w.heap.size + 1, 0, none⟩ (.int .i64 L) rfl).trans (Turn.setCell _ (fun j => j = w.heap.size + 1) ⟨w.heap.size + 1, 1, none⟩ (.slice A9 (acc ++ [(x, m)]).length c9) rfl) fun _ _ h => h) fun j hj e => by have := (h5.lt j hj).1; omega) fun j hj => by have := (h5.lt j hj).1; omega
          rw [hlenS.out] at this
          rw [hlenS.out]
          exact this
        · exact ((hb1.trans (hb6.mono hb1.size)).setCell (by simp) _).setCell (by simp) _
      · have hres : Hid (acc = put x m l) := by show _ = _; simpa using hgo2
        have how0 := how
        rw [hma] at how hacc
        obtain ⟨A9, c9, rfl, _, _, _⟩ := own_form how
        replace how := hide how
        replace hma := hide hma
        clear hgo2 hgo how0
        go_wp2_with fail
        refine bodyPost_ret (v := rb L (.slice A9 ma c9)) (by simp [results, Tryz.results59, go_sem, b0, b1]) rfl ⟨_, rfl, ?_, ?_⟩
        · rw [← hres.out]
          have h5 := how.out
          rw [← hma.out] at h5
          have := own_base (c := w.heap.size) (own_turned h5 ((Turn.setCell wr (fun j => j = w.heap.size + 1) ⟨w.heap.size + 1, 0, none⟩ (.int .i64 L) rfl).trans (Turn.setCell _ (fun j => j = w.heap.size + 1) ⟨w.heap.size + 1, 1, none⟩ (.slice A9 acc.length c9) rfl) fun _ _ h => h) fun j hj e => by have := (h5.lt j hj).1; omega) fun j hj => by have := (h5.lt j hj).1; omega
          rw [hma.out] at this
          rw [hma.out]
          exact this
        · exact ((hb1.trans (hbel.mono hb1.size)).setCell (by simp) _).setCell (by simp) _
theorem _root_.Go.Proofs.YteebghoijaaakaaGreat.Nds.turned {S : Nat → Prop} {w w1 : World} {v : Value} {l : List Rg} (h : Nds w v l) (k : Turn S w w1) (hn : ∀ j, v.ownBlock = some j → ¬ S j) : Nds w1 v l := by
  obtain ⟨A, c, rfl, h1, h2, h3, hr⟩ := h
  refine ⟨A, c, rfl, h1, h2, h3, fun h0 => ?_⟩
  obtain ⟨b, off, rfl, hb, hc⟩ := hr h0
  have hs := k.size
  exact ⟨b, off, rfl, by omega, fun i hi => (World.cell?_of_block (a := ⟨b, off + i, none⟩) (k.block b hb (hn b rfl))).trans (hc i hi)⟩
/-- What hands back a bag of the reference and an error: its readings lie where they lay, or in a new block. -/
def RGives (w : World) (L : Int) (v : Value) (l : List Rg) (r : Int) (e : Ending) (w' : World) : Prop :=
  ∃ v', e = .returned (.tuple #[rb L v', .int .i64 r]) ∧ Nds w' v' l ∧ Below w.heap.size w w' ∧ ∀ j, v'.ownBlock = some j → j < w'.heap.size ∧ (v.ownBlock = some j ∨ w.heap.size ≤ j)
theorem rg_same {w w' : World} {L : Int} {v : Value} {l : List Rg} {r : Int} (hn : Nds w' v l) (hb : Below w.heap.size w w') (hvb : ∀ j, v.ownBlock = some j → j < w.heap.size) : RGives w L v l r (.returned (.tuple #[rb L v, .int .i64 r])) w' :=
  ⟨v, rfl, hn, hb, fun j h => ⟨Nat.lt_of_lt_of_le (hvb j h) hb.size, .inl h⟩⟩
set_option maxRecDepth 100000 in
set_option maxHeartbeats 1000000 in
theorem radd_c (x n : Int) (L : Int) (l : List Rg) (v : Value) (w : World) (hv : Nds w v l) (ho : Ok l) (hl : l.length ≤ 100000) (hL : 1 ≤ L ∧ L ≤ 48) (hvb : ∀ j, v.ownBlock = some j → j < w.heap.size) :
    Calls Tryz.prog 27 #[rb L v, .int .i64 x, .int .i64 n] w (RGives w L v (BagM.addF L l x n).1 (BagM.addF L l x n).2) := by
  have hP := hide (fun W => rpower L W (by omega))
  have hT := hide (fun W (hW : Below w.heap.size w W) => rtotal_c L l v W (hv.kept hW) ho (by omega))
  have hQ := fun (h1 : 1 ≤ n) (h2 : n ≤ 72057594037927935 - tot l) => hide (fun W (hW : Below w.heap.size w W) => rput_c x n L l v W (hv.kept hW) ho hl ⟨h1, h2⟩)
  have hkept := hide (fun W (hW : Below w.heap.size w W) => hv.kept hW)
  have hm := ho.most
  have ht0 := tot_nonneg l ho.pos
  replace hvb := hide hvb
  obtain ⟨A, c, rfl, -, -, -, -⟩ := hv
  by_cases h0 : x < 0
  · have hF : Hid (BagM.addF L l x n = (l, 3)) := by show _ = _; unfold BagM.addF; rw [if_pos (.inl h0)]
    rw [hF.out]
    clear ho hQ
    generalize l.length = ln at *
    go_enter Tryz.func27, Tryz.ntmps27
    go_wp2_with fail
    refine bodyPost_ret (v := .tuple #[rb L (.slice A ln c), .int .i64 3]) (by simp [results, Tryz.results27, go_sem]) rfl ?_
    exact rg_same (hkept.out _ (balloc (balloc0 _ _) _)) (balloc (balloc0 _ _) _) hvb.out
  by_cases h1 : pw L ≤ x
  · have hF : Hid (BagM.addF L l x n = (l, 3)) := by show _ = _; unfold BagM.addF; rw [if_pos (.inr h1)]
    rw [hF.out]
    clear ho hQ
    generalize pw L = pL at *
    generalize l.length = ln at *
    go_enter Tryz.func27, Tryz.ntmps27
    go_wp2_with (go_at_call 70; refine (hP.out _).mono ?_; rintro e w1 ⟨rfl, rfl⟩)
    refine bodyPost_ret (v := .tuple #[rb L (.slice A ln c), .int .i64 3]) (by simp [results, Tryz.results27, go_sem]) rfl ?_
    exact rg_same (hkept.out _ (balloc (balloc0 _ _) _)) (balloc (balloc0 _ _) _) hvb.out
  by_cases h2 : n < 1
  · have hF : Hid (BagM.addF L l x n = (l, 4)) := by show _ = _; unfold BagM.addF; rw [if_neg (by omega), if_pos h2]
    rw [hF.out]
    clear ho hQ
    generalize pw L = pL at *
    generalize l.length = ln at *
    go_enter Tryz.func27, Tryz.ntmps27
    go_wp2_with (go_at_call 70; refine (hP.out _).mono ?_; rintro e w1 ⟨rfl, rfl⟩)
    refine bodyPost_ret (v := .tuple #[rb L (.slice A ln c), .int .i64 4]) (by simp [results, Tryz.results27, go_sem]) rfl ?_
    exact rg_same (hkept.out _ (balloc (balloc0 _ _) _)) (balloc (balloc0 _ _) _) hvb.out
  have hA := (Blk.made w 53 #[.int .i64 L, .slice A l.length c]).alloc (.cells #[.int .i64 0, .slice none 0 0] 53)
  have hB := Blk.made_at (w.alloc (.cells #[.int .i64 L, .slice A l.length c] 53)) 53 #[.int .i64 0, .slice none 0 0] (g := w.heap.size + 1) (by simp)
  have hb0 : Below w.heap.size w ((w.alloc (.cells #[.int .i64 L, .slice A l.length c] 53)).alloc (.cells #[.int .i64 0, .slice none 0 0] 53)) := balloc (balloc0 _ _) _
  have hfacts : Hid (∀ w1, Below ((w.alloc (.cells #[.int .i64 L, .slice A l.length c] 53)).alloc (.cells #[.int .i64 0, .slice none 0 0] 53)).heap.size ((w.alloc (.cells #[.int .i64 L, .slice A l.length c] 53)).alloc (.cells #[.int .i64 0, .slice none 0 0] 53)) w1 →
      (w1.cell? ⟨w.heap.size, 0, none⟩ = some (.int .i64 L) ∧ w1.cell? ⟨w.heap.size, 1, none⟩ = some (.slice A l.length c) ∧ w.heap.size + 1 < w1.heap.size ∧
      w1.cell? ⟨w.heap.size + 1, 0, none⟩ = some (.int .i64 0) ∧ w1.cell? ⟨w.heap.size + 1, 1, none⟩ = some (.slice none 0 0) ∧ w1.frozen? ⟨w.heap.size + 1, 0, none⟩ = false ∧ w1.frozen? ⟨w.heap.size + 1, 1, none⟩ = false) ∧ Below w.heap.size w w1) := fun w1 hb1 => by
    have hA1 := hA.kept hb1
    have hB1 := hB.kept hb1
    exact ⟨⟨by rw [hA1.cell]; rfl, by rw [hA1.cell]; rfl, hB1.lt, by rw [hB1.cell]; rfl, by rw [hB1.cell]; rfl, hB1.free 0, hB1.free 1⟩, hb0.trans (hb1.mono hb0.size)⟩
  obtain ⟨t, ht⟩ : ∃ t, Hid (tot l = t) := ⟨_, rfl⟩
  rw [ht.out] at hT hQ ht0 hm
  by_cases h3 : 72057594037927935 - t < n
  · have hF : Hid (BagM.addF L l x n = (l, 5)) := by show _ = _; unfold BagM.addF; rw [ht.out, if_neg (by omega), if_neg h2, if_pos h3]
    rw [hF.out]
    clear ho hQ hA hB hb0
    generalize pw L = pL at *
    generalize l.length = ln at *
    go_enter Tryz.func27, Tryz.ntmps27
    go_wp2_with (first
      | (go_at_call 70; refine (hP.out _).mono ?_; rintro e w1 ⟨rfl, rfl⟩)
      | (go_at_call 58; refine (hT.out _ (balloc (balloc0 _ _) _)).mono ?_; rintro e w1 ⟨rfl, hb1⟩; obtain ⟨⟨a0, a1, a2, b0, b1, b2, b3⟩, hb2⟩ := hfacts.out _ hb1; have a3 : w.heap.size < w1.heap.size := (by omega)))
    refine bodyPost_ret (v := .tuple #[rb L (.slice A ln c), .int .i64 5]) (by simp [results, Tryz.results27, go_sem, b0, b1]) rfl ?_
    exact rg_same (hkept.out _ ((hb2.setCell (by simp) _).setCell (by simp) _)) ((hb2.setCell (by simp) _).setCell (by simp) _) hvb.out
  · have hF : Hid (BagM.addF L l x n = (put x n l, 0)) := by show _ = _; unfold BagM.addF; rw [ht.out, if_neg (by omega), if_neg h2, if_neg h3]
    rw [hF.out]
    replace hQ := hQ (by omega) (by omega)
    clear ho hA hB hb0
    generalize pw L = pL at *
    generalize l.length = ln at *
    go_enter Tryz.func27, Tryz.ntmps27
    go_wp2_with (first
      | (go_at_call 70; refine (hP.out _).mono ?_; rintro e w1 ⟨rfl, rfl⟩)
      | (go_at_call 58; refine (hT.out _ (balloc (balloc0 _ _) _)).mono ?_; rintro e w1 ⟨rfl, hb1⟩; obtain ⟨⟨a0, a1, a2, b0, b1, b2, b3⟩, hb2⟩ := hfacts.out _ hb1; have a3 : w.heap.size < w1.heap.size := (by omega))
      | (go_at_call 59; refine (hQ.out _ hb2).mono ?_; rintro e w2 ⟨v2, rfl, hv2, hb3⟩; obtain ⟨A2, c2, rfl, _, _, _⟩ := own_form hv2; replace hv2 := hide hv2; clear a0 a1 a2 a3 b0 b1 b2 b3; obtain ⟨⟨a0, a1, a2, b0, b1, b2, b3⟩, hb4⟩ := hfacts.out _ (hb1.trans (hb3.mono hb1.size)); have a3 : w.heap.size < w2.heap.size := (by omega)))
    refine bodyPost_ret (v := .tuple #[rb L (.slice A2 (put x n l).length c2), .int .i64 0]) (by simp [results, Tryz.results27, go_sem, b0, b1]) rfl ?_
    have hsz := hb2.size
    have ho2 := hv2.out
    refine ⟨_, rfl, own_nds (own_turned ho2 ((Turn.setCell w2 (fun j => j = w.heap.size + 1) ⟨w.heap.size + 1, 0, none⟩ (.int .i64 L) rfl).trans (Turn.setCell _ (fun j => j = w.heap.size + 1) ⟨w.heap.size + 1, 1, none⟩ (.slice A2 (put x n l).length c2) rfl) fun _ _ h => h) fun j hj e => ?_), (hb4.setCell (by simp) _).setCell (by simp) _, fun j hj => ⟨by have := (ho2.lt j hj).2; simpa using this, .inr ?_⟩⟩
    · have := (ho2.lt j hj).1
      have := hb1.size
      simp only [World.size_alloc] at this
      omega
    · have := (ho2.lt j hj).1
      omega
end BG
end Go.Proofs.YteebghoijaaakaaGreat
/- The walks of layer 10's reference, on: a bag's image. By the prover of this repo. -/
namespace Go.Proofs.YteebghoijaaakaaGreat
namespace BG
open Go.RowKit
attribute [local go_sem ↓] Go.wp_at_zero Go.wp_at_succ
open TwigM BagM

theorem putAll_nil (l : List Rg) : putAll l [] = l := rfl
theorem putAll_cons (l : List Rg) (p : Rg) (r : List Rg) : putAll l (p :: r) = putAll (put p.1 p.2 l) r := rfl
theorem cut_nil (k : Int) : cut k [] = [] := rfl
theorem cut_cons (k : Int) (p : Rg) (r : List Rg) : cut k (p :: r) = (p.1 / pw k, p.2) :: cut k r := rfl
def RImgRel (w : World) (L M k : Int) (v : Value) (r : List Rg) (n : Nat) (G : List Rg) (kv : Value) (wr : World) : Prop :=
  ∃ (i : Nat) (l' : List Rg) (u : Value), i ≤ n ∧ kv = .int .i64 i ∧ Blk wr (w.heap.size + 1 + 1) 53 #[.int .i64 M, u] ∧ Blk wr w.heap.size 53 #[.int .i64 L, v] ∧ Blk wr (w.heap.size + 1) 53 #[.int .i64 0, .slice none 0 0] ∧ Nds wr u l' ∧ Ok l' ∧ l'.length ≤ i ∧
    Hid (putAll l' (cut k (r.drop i)) = G) ∧ tot l' + tot (r.drop i) ≤ 72057594037927935 ∧ Below w.heap.size w wr ∧ ∀ j, u.ownBlock = some j → j < wr.heap.size ∧ w.heap.size + 3 ≤ j
end BG
end Go.Proofs.YteebghoijaaakaaGreat

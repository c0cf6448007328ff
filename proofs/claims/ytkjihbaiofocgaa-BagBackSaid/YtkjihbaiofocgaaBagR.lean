/- The walks of layer 10's reference: a bag as a value; its total, ranks, the value of a rank. By the prover of this repo. -/
import Derived.Test.YtkjihbaiofocgaaBagE
import Derived.Test.YtkjihbaiofocgaaBagN
namespace Go.Proofs.Ytkjihbaiofocgaa
open Go.RowKit
open TwigM BagM

/-- A bag of the reference as a value. -/
abbrev rb (L : Int) (v : Value) : Value := .agg #[.int .i64 L, v]

set_option maxRecDepth 100000 in
theorem rtotal_c (L : Int) (l : List Rg) (v : Value) (w : World) (hv : Nds w v l) (ho : Ok l) (hl : l.length ≤ 1000000) :
    Calls Try.prog 36 #[rb L v] w fun e w' => e = .returned (.int .i64 (tot l)) ∧ Below w.heap.size w w' := by
  have hm := ho.most
  have hpos := hide ho.pos
  obtain ⟨A, c, rfl, _, _, _, hr⟩ := hv
  obtain ⟨t, ht⟩ : ∃ t, tot l = t := ⟨_, rfl⟩
  rw [ht] at hm ⊢
  replace ht := hide ht
  obtain ⟨n, hn⟩ : ∃ n, Hid (l.length = n) := ⟨_, rfl⟩
  rw [hn.out] at hl
  have hrn : Hid (Rd (w.alloc (.cells #[.int .i64 L, .slice A n c] 29)) A l.length 2 (ndc l)) := hr.alloc _
  rw [hn.out]
  clear hr ho
  go_enter Try.func36, Try.ntmps36
  go_wp2_with fail
  go_loop [3, 4] (fun s k => ∃ (q : Int) (i : Nat), i ≤ n ∧ 0 ≤ q ∧ s = .int .i64 q ∧ k = .int .i64 i ∧ Hid (q + tot (l.drop i) = t)) (fun _ k => n - (intOf k).toNat)
  case atStart => exact ⟨0, 0, by omega, by omega, rfl, rfl, by show _ = _; rw [List.drop_zero, ht.out, Int.zero_add]⟩
  case round =>
    obtain ⟨q, i, hi, hq0, rfl, rfl, hgo⟩ := hrel
    by_cases hlt : i < n
    · have hil : i < l.length := by rw [hn.out]; exact hlt
      obtain ⟨b, off, rfl, hb, c0, c1⟩ := rd_at hrn.out hil
      have hp1 := hpos.out l[i] (List.getElem_mem hil)
      have hrest := tot_nonneg (l.drop (i + 1)) fun p hp => hpos.out p (List.mem_of_mem_drop hp)
      have hgo2 := hgo.out
      rw [List.drop_eq_getElem_cons hil, tot] at hgo2
      generalize l[i].2 = y at *
      have hgo3 : Hid (q + y + tot (l.drop (i + 1)) = t) := by show _ = _; omega
      have hle : q + y ≤ 72057594037927935 := by omega
      clear hgo2 hrest c0
      go_wp2_with fail
      go_round
      case rel => exact ⟨q + y, i + 1, by omega, by omega, rfl, by go_num, hgo3⟩
      case measure => simp [intOf]; omega
    · have hres : Hid (q = t) := by
        have := hgo.out
        rw [List.drop_of_length_le (by rw [hn.out]; omega), tot] at this
        show _ = _; omega
      go_wp2_with fail
      go_ret
      exact ⟨by rw [← hres.out]; rfl, balloc0 _ _⟩

set_option maxRecDepth 100000 in
theorem rbetween_c (x y : Int) (L : Int) (l : List Rg) (v : Value) (w : World) (hv : Nds w v l) (ho : Ok l) (hl : l.length ≤ 1000000) :
    Calls Try.prog 20 #[rb L v, .int .i64 x, .int .i64 y] w fun e w' => e = .returned (.int .i64 (bet x y l)) ∧ Below w.heap.size w w' := by
  have hm : bet x y l ≤ 72057594037927935 := by have := bet_le x y l ho.pos; have := ho.most; omega
  have hpos := hide ho.pos
  obtain ⟨A, c, rfl, _, _, _, hr⟩ := hv
  obtain ⟨t, ht⟩ : ∃ t, bet x y l = t := ⟨_, rfl⟩
  rw [ht] at hm ⊢
  replace ht := hide ht
  obtain ⟨n, hn⟩ : ∃ n, Hid (l.length = n) := ⟨_, rfl⟩
  rw [hn.out] at hl
  have hrn : Hid (Rd (w.alloc (.cells #[.int .i64 L, .slice A n c] 29)) A l.length 2 (ndc l)) := hr.alloc _
  rw [hn.out]
  clear hr ho
  go_enter Try.func20, Try.ntmps20
  go_wp2_with fail
  go_loop [7, 8] (fun s k => ∃ (q : Int) (i : Nat), i ≤ n ∧ 0 ≤ q ∧ s = .int .i64 q ∧ k = .int .i64 i ∧ Hid (q + bet x y (l.drop i) = t)) (fun _ k => n - (intOf k).toNat)
  case atStart => exact ⟨0, 0, by omega, by omega, rfl, rfl, by show _ = _; rw [List.drop_zero, ht.out, Int.zero_add]⟩
  case round =>
    obtain ⟨q, i, hi, hq0, rfl, rfl, hgo⟩ := hrel
    by_cases hlt : i < n
    · have hil : i < l.length := by rw [hn.out]; exact hlt
      obtain ⟨b, off, rfl, hb, c0, c1⟩ := rd_at hrn.out hil
      have hp1 := hpos.out l[i] (List.getElem_mem hil)
      have hrest := bet_nonneg x y (l.drop (i + 1)) fun p hp => hpos.out p (List.mem_of_mem_drop hp)
      have hgo2 := hgo.out
      rw [List.drop_eq_getElem_cons hil, bet] at hgo2
      generalize l[i] = p at *
      obtain ⟨z, k⟩ := p
      simp only at c0 c1 hp1 hgo2
      by_cases h1 : x ≤ z
      · by_cases h2 : z ≤ y
        · rw [if_pos ⟨h1, h2⟩] at hgo2
          have hgo3 : Hid (q + k + bet x y (l.drop (i + 1)) = t) := by show _ = _; omega
          have hle : q + k ≤ 72057594037927935 := by omega
          clear hgo2 hrest
          go_wp2_with fail
          go_round
          case rel => exact ⟨q + k, i + 1, by omega, by omega, rfl, by go_num, hgo3⟩
          case measure => simp [intOf]; omega
        · rw [if_neg (fun k => h2 k.2)] at hgo2
          have hgo3 : Hid (q + bet x y (l.drop (i + 1)) = t) := by show _ = _; omega
          clear hgo2 hrest
          go_wp2_with fail
          go_round
          case rel => exact ⟨q, i + 1, by omega, by omega, rfl, by go_num, hgo3⟩
          case measure => simp [intOf]; omega
      · rw [if_neg (fun k => h1 k.1)] at hgo2
        have hgo3 : Hid (q + bet x y (l.drop (i + 1)) = t) := by show _ = _; omega
        clear hgo2 hrest
        go_wp2_with fail
        go_round
        case rel => exact ⟨q, i + 1, by omega, by omega, rfl, by go_num, hgo3⟩
        case measure => simp [intOf]; omega
    · have hres : Hid (q = t) := by
        have := hgo.out
        rw [List.drop_of_length_le (by rw [hn.out]; omega), bet] at this
        show _ = _; omega
      go_wp2_with fail
      go_ret
      exact ⟨by rw [← hres.out]; rfl, balloc0 _ _⟩

theorem rrank_c (x : Int) (L : Int) (l : List Rg) (v : Value) (w : World) (hv : Nds w v l) (ho : Ok l) (hl : l.length ≤ 1000000) :
    Calls Try.prog 18 #[rb L v, .int .i64 x] w fun e w' => e = .returned (.int .i64 (rank x l)) ∧ Below w.heap.size w w' := by
  have hB := rbetween_c 0 x L l v (w.alloc (.cells #[.int .i64 L, v] 29)) (hv.kept (balloc0 _ _)) ho hl
  rw [show bet 0 x l = rank x l from rfl] at hB
  generalize rank x l = r at *
  obtain ⟨A, c, rfl, -, -, -, -⟩ := hv
  generalize l.length = n at *
  replace hB := hide hB
  go_enter Try.func18, Try.ntmps18
  go_wp2_with fail
  refine hB.out.mono ?_
  rintro e w1 ⟨rfl, hb1⟩
  go_wp2_with fail
  go_ret
  exact ⟨rfl, bthen (balloc0 _ _) hb1⟩

set_option maxRecDepth 100000 in
set_option maxHeartbeats 1000000 in
theorem rkth_c (r : Int) (L : Int) (l : List Rg) (v : Value) (w : World) (hv : Nds w v l) (ho : Ok l) (hi0 : In L l) (hl : l.length ≤ 1000000) :
    Calls Try.prog 16 #[rb L v, .int .i64 r] w fun e w' => e = .returned (.tuple #[.int .i64 (kthF l r).1, .int .i64 (kthF l r).2]) ∧ Below w.heap.size w w' := by
  have hT := fun W (hW : Below w.heap.size w W) => rtotal_c L l v W (hv.kept hW) ho hl
  have hR := fun x W (hW : Below w.heap.size w W) => rrank_c x L l v W (hv.kept hW) ho hl
  have hra := hide (fun i (h : i < l.length) => rank_at l ho.rise hi0 i h)
  have hks := hide (fun i (h : i < l.length) => kth_spec l r i ho.pos h)
  have hall := hide (tot_append (l.take l.length) (l.drop l.length))
  obtain ⟨A, c, rfl, _, _, _, hr⟩ := hv
  by_cases h0 : l = []
  · subst h0
    have hF : Hid (kthF [] r = (0, 7)) := if_pos rfl
    rw [hF.out]
    simp only [List.length_nil]
    clear hr hT hR ho
    go_enter Try.func16, Try.ntmps16
    go_wp2_with fail
    go_ret2
    exact ⟨rfl, balloc0 _ _⟩
  · have hn0 : 0 < l.length := List.length_pos_iff.2 h0
    have hn3 : ((l.length : Int) == 0) = false := by simp; omega
    have hn2 : ¬ (l.length : Int) = 0 := by omega
    by_cases h1 : r < 1
    · have hF : Hid (kthF l r = (0, 2)) := by show _ = _; unfold kthF; rw [if_neg h0, if_pos (.inl h1)]
      rw [hF.out]
      clear hr hT hR ho hra hks hall
      generalize l.length = n at *
      go_enter Try.func16, Try.ntmps16
      go_wp2_with fail
      go_ret2
      exact ⟨rfl, balloc0 _ _⟩
    · obtain ⟨t, ht⟩ : ∃ t, tot l = t := ⟨_, rfl⟩
      rw [ht] at hT
      by_cases h2 : t < r
      · have hF : Hid (kthF l r = (0, 2)) := by show _ = _; unfold kthF; rw [if_neg h0, if_pos (.inr (by omega))]
        rw [hF.out]
        replace hT := hide hT
        clear hr hR ho hra hks hall ht
        generalize l.length = n at *
        go_enter Try.func16, Try.ntmps16
        go_wp2_with (go_at_call 36; refine (hT.out _ (balloc0 _ _)).mono ?_; rintro e w1 ⟨rfl, hb1⟩)
        go_ret2
        exact ⟨rfl, bthen (balloc0 _ _) hb1⟩
      · have hF : Hid (kthF l r = (kthGo r l, 0)) := by show _ = _; unfold kthF; rw [if_neg h0, if_neg (by omega)]
        rw [hF.out]
        generalize hG : kthGo r l = G
        replace hG := hide hG
        obtain ⟨n, hn⟩ : ∃ n, Hid (l.length = n) := ⟨_, rfl⟩
        have htn : Hid (tot (l.take n) = t) := by show _ = _; rw [← hn.out, List.take_length, ht]
        rw [hn.out] at hl hT hR hn0 hn2 hn3
        have hrn : Hid (Rd w A l.length 2 (ndc l)) := hr
        have hRh : Hid (∀ x, ∀ W, Below w.heap.size w W → Calls Try.prog 18 #[rb L (.slice A n c), .int .i64 x] W fun e w' => e = .returned (.int .i64 (rank x l)) ∧ Below W.heap.size W w') := hR
        replace hT := hide hT
        rw [hn.out]
        clear hr hR ho ht h0 hall
        go_enter Try.func16, Try.ntmps16
        go_wp2_with (go_at_call 36; refine (hT.out _ (balloc0 _ _)).mono ?_; rintro e w1 ⟨rfl, hb1⟩)
        have hbk := (Blk.made w 29 #[.int .i64 L, .slice A n c]).kept hb1
        have hb2 := bthen (balloc0 _ _) hb1
        go_loopw [6] (fun k wr => ∃ i : Nat, i < n ∧ k = .int .i64 i ∧ tot (l.take i) < r ∧ Below w1.heap.size w1 wr) (fun k _ => n - (intOf k).toNat)
        case atStart => exact ⟨0, hn0, rfl, by simp [tot]; omega, Below.refl _ _⟩
        case round =>
          obtain ⟨i, hlt, rfl, hti, hbel⟩ := hrel
          have hil : i < l.length := by rw [hn.out]; exact hlt
          have hbw := hb2.trans (hbel.mono hb2.size)
          obtain ⟨b, off, rfl, hb, c0, -⟩ := rd_at (hrn.out.of_below (Nat.le_refl _) hbw) hil
          have hbz := hb2.size
          have hbk2 := hbk.kept hbel
          have b0 : wr.cell? ⟨w.heap.size, 0, none⟩ = some (.int .i64 L) := by rw [hbk2.cell]; rfl
          have b1 : wr.cell? ⟨w.heap.size, 1, none⟩ = some (.slice (some ⟨b, off, none⟩) n c) := by rw [hbk2.cell]; rfl
          have b2 := hbk2.lt
          have hlt2 : (i : Int) < (n : Int) := by omega
          have hC : Hid (∀ e : Later wr.heap.size wr, Calls Try.prog 18 #[rb L (.slice (some ⟨b, off, none⟩) n c), .int .i64 l[i].1] e.val fun r w' => r = .returned (.int .i64 (tot (l.take (i + 1)))) ∧ Below e.val.heap.size e.val w') := fun e => by
            have := hRh.out l[i].1 e.val (hbw.trans (e.property.mono hbw.size))
            rwa [hra.out i hil] at this
          have hk2 := hide (hks.out i hil hti)
          have hnext : Hid (tot (l.take (i + 1)) < r → i + 1 < n) := fun h => by
            by_cases h3 : i + 1 < n
            · exact h3
            · have : i + 1 = n := by omega
              rw [this, htn.out] at h
              omega
          obtain ⟨t2, ht2⟩ : ∃ t2, Hid (tot (l.take (i + 1)) = t2) := ⟨_, rfl⟩
          rw [ht2.out] at hC hk2 hnext
          generalize l[i].1 = y at *
          have hbelh := hide hbel
          clear hbk2 hbw
          by_cases hrt : t2 < r
          · have hlt3 := hnext.out hrt
            go_wp2_with fail
            refine wp_region_later (by kernel_rfl) (by kernel_rfl) ?_
            repeat (go_big_quiet_step (first | (go_at_call 18; exact calls_later (hC.out _)) | exact rfl))
            refine wpQuiet_nil ?_
            rintro _ ⟨e1, rfl⟩
            go_wp2_with fail
            go_roundw
            case rel => exact ⟨i + 1, hlt3, by go_num, by rw [ht2.out]; exact hrt, bthen hbel e1.property⟩
            case measure => simp [intOf]; omega
          · have hres : Hid (G = y) := by show _ = _; rw [← hG.out]; exact hk2.out (by omega)
            go_wp2_with fail
            refine wp_region_later (by kernel_rfl) (by kernel_rfl) ?_
            repeat (go_big_quiet_step (first | (go_at_call 18; exact calls_later (hC.out _)) | exact rfl))
            refine wpQuiet_nil ?_
            rintro _ ⟨e1, rfl⟩
            have c0' := (e1.property.cell (p := ⟨b, off + i * 2, none⟩) (by omega)).trans c0
            have b1' := (e1.property.cell (p := ⟨w.heap.size, 1, none⟩) b2).trans b1
            have b2' := Nat.lt_of_lt_of_le b2 e1.property.size
            have hb' : b < e1.val.heap.size := by have := e1.property.size; omega
            go_wp2_with fail
            go_ret2
            exact ⟨by rw [hres.out]; rfl, bthen hb2 (bthen hbel e1.property)⟩
end Go.Proofs.Ytkjihbaiofocgaa

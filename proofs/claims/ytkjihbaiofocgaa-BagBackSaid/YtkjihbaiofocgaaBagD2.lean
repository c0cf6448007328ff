/- Layer 10: a bag of readings, made both ways, with where the reference's readings lie. By the prover of this repo. -/
import Derived.Test.YtkjihbaiofocgaaBagD
import Derived.Test.YtkjihbaiofocgaaBagZ
namespace Go.Proofs.Ytkjihbaiofocgaa
open Go.RowKit
attribute [local go_sem ↓] Go.wp_at_zero Go.wp_at_succ
open TwigM BagM

set_option maxRecDepth 100000 in
set_option maxHeartbeats 4000000 in
theorem rof2_c (L : Int) (r : List Rg) (v : Value) (w : World) (hv : Nds w v r) (hrl : r.length ≤ 500) (hL : 1 ≤ L ∧ L ≤ 48) :
    Calls Try.prog 41 #[.int .i64 L, v] w fun e w' => ∃ u, e = .returned (rb L u) ∧ Nds w' u (ofF L r) ∧ Below w.heap.size w w' ∧ ∀ j, u.ownBlock = some j → w.heap.size ≤ j ∧ j < w'.heap.size := by
  obtain ⟨A, c, rfl, _, _, _, hr⟩ := hv
  obtain ⟨n, hn⟩ : ∃ n, Hid (r.length = n) := ⟨_, rfl⟩
  rw [hn.out] at hrl ⊢
  have hrh : Hid (Rd w A r.length 2 (ndc r)) := hr
  have hm := hide (show OfRel w L r n (.int .i64 0) ((w.alloc (.cells #[.int .i64 0, .slice none 0 0] 29)).alloc (.cells #[.int .i64 L, .slice none 0 0] 29)) from
    ⟨0, [], .slice none 0 0, by omega, rfl, Blk.made_at _ _ _ (by simp), (Blk.made w _ _).alloc _, Nds.nil _, (fun j hj => by cases hj), Ok.nil, In.nil L, by simp, by show _ = _; rw [List.drop_zero]; rfl, balloc (balloc0 _ _) _⟩)
  clear hr
  go_enter Try.func41, Try.ntmps41
  go_wp2_with fail
  go_loopw [6] (fun kv wr => OfRel w L r n kv wr) (fun kv _ => n - (intOf kv).toNat)
  case atStart => exact hm.out
  case round =>
    obtain ⟨i, l, u, hi, rfl, hB, hA, hu, hf, hok, hin, hlen, hgo, hbel⟩ := hrel
    by_cases hlt : i < n
    · have hil : i < r.length := by rw [hn.out]; exact hlt
      obtain ⟨b, off, rfl, hb, q0, q1⟩ := rd_at (hrh.out.of_below (Nat.le_refl _) hbel) hil
      rw [List.drop_eq_getElem_cons hil] at hgo
      generalize r[i] = p at *
      obtain ⟨x, y⟩ := p
      simp only at q0 q1
      have hadd := hide (fun q : Nat => radd_c x y L l u (wr.drewN q) (hu.kept (below_drewN (Below.refl _ _) q)) hok (by omega) hL fun j hj => (hf j hj).2)
      have hok2 := hide (add_ok hok hin x y)
      have hln2 := hide (add_len L l x y)
      have hgo2 : Hid (addAll L (addF L l x y).1 (r.drop (i + 1)) = ofF L r) := by show _ = _; rw [← hgo.out, addAll_cons]
      obtain ⟨A2, c2, rfl, _, _, _, _⟩ := hu
      have hbz := hbel.size
      have hBz := hB.lt
      have hlt2 : (i : Int) < (n : Int) := by omega
      generalize addF L l x y = G at *
      obtain ⟨l2, er⟩ := G
      simp only at hadd hok2 hln2 hgo2
      have hfh := hide hf
      have e0 : wr.cell? ⟨w.heap.size + 1, 0, none⟩ = some (.int .i64 L) := by rw [hB.cell]; rfl
      have e1 : wr.cell? ⟨w.heap.size + 1, 1, none⟩ = some (.slice A2 l.length c2) := by rw [hB.cell]; rfl
      have hb' : b < wr.heap.size := by omega
      have hBk := hide (fun V (hV : Below wr.drew.heap.size wr.drew V) => hB.drew.kept hV)
      have haddV : Hid (Calls Try.prog 11 #[rb L (.slice A2 l.length c2), .int .i64 x, .int .i64 y] wr.drew (RGives wr.drew L (.slice A2 l.length c2) l2 er)) := hadd.out 1
      have hAh := hide hA
      clear hA hB hadd hok hin hf
      go_wp2_with fail
      go_region_with (go_at_call 11; (with_reducible refine haddV.out.mono ?_); rintro e w5 ⟨u5, rfl, hu5, hb5, hf5⟩; obtain ⟨A5, c5, rfl, y1, y2, y3, y4⟩ := hu5; have hB5 := hBk.out _ hb5; have g0 : w5.cell? ⟨w.heap.size + 1, 0, none⟩ = some (.int .i64 L) := (by rw [hB5.cell]; rfl); have g1 : w5.cell? ⟨w.heap.size + 1, 1, none⟩ = some (.slice A2 l.length c2) := (by rw [hB5.cell]; rfl); have g2 := hB5.lt; have g3 := hB5.free 0; have g4 := hB5.free 1)
      all_goals go_wp2_with fail
      all_goals
        have hne : w.heap.size ≠ w.heap.size + 1 := by omega
        have hownj : ∀ j, (Value.slice A5 l2.length c5).ownBlock = some j → w.heap.size + 2 ≤ j ∧ j < w5.heap.size := fun j hj => by
          obtain ⟨k1, k⟩ := hf5 j hj
          rcases k with k | k
          · exact ⟨(hfh.out j k).1, k1⟩
          · have k2 : wr.heap.size ≤ j := k
            exact ⟨by omega, k1⟩
        refine ⟨⟨i + 1, l2, .slice A5 l2.length c5, by omega, by go_num, ?_, ?_, ?_, (fun j hj => by simpa using hownj j hj), hok2.out.1, hok2.out.2, by have := hln2.out; omega, hgo2, ?_⟩, by simp [intOf]; omega⟩
        · have := (hB5.set 0 (.int .i64 L)).set 1 (.slice A5 l2.length c5)
          simpa using this
        · exact ((hAh.out.drew.kept hb5).off (p := ⟨w.heap.size + 1, 0, none⟩) hne _).off (p := ⟨w.heap.size + 1, 1, none⟩) hne _
        · refine Nds.turned (S := fun j => j = w.heap.size + 1) (w := w5) ⟨A5, c5, rfl, y1, y2, y3, y4⟩ ((Turn.setCell w5 (fun j => j = w.heap.size + 1) ⟨w.heap.size + 1, 0, none⟩ (.int .i64 L) rfl).trans (Turn.setCell _ (fun j => j = w.heap.size + 1) ⟨w.heap.size + 1, 1, none⟩ _ rfl) fun _ _ h => h) fun j hj e => ?_
          have := hownj j hj
          omega
        · exact ((hbel.drew.trans (hb5.mono hbz)).setCell (by simp) _).setCell (by simp) _
    · have hres : Hid (l = ofF L r) := by show _ = _; rw [← hgo.out, List.drop_of_length_le (by rw [hn.out]; omega), addAll_nil]
      have huh := hide hu
      obtain ⟨A2, c2, rfl, _, _, _, _⟩ := hu
      have e0 : wr.cell? ⟨w.heap.size + 1, 0, none⟩ = some (.int .i64 L) := by rw [hB.cell]; rfl
      have e1 : wr.cell? ⟨w.heap.size + 1, 1, none⟩ = some (.slice A2 l.length c2) := by rw [hB.cell]; rfl
      have e2 := hB.lt
      have a0 : wr.cell? ⟨w.heap.size, 0, none⟩ = some (.int .i64 0) := by rw [hA.cell]; rfl
      have a1 : wr.cell? ⟨w.heap.size, 1, none⟩ = some (.slice none 0 0) := by rw [hA.cell]; rfl
      have a2 := hA.free 0
      have a3 := hA.free 1
      have a4 := hA.lt
      have hfh := hide hf
      clear hA hB hok hin hf hgo
      go_wp2_with fail
      refine bodyPost_ret (v := rb L (.slice A2 l.length c2)) (by simp [results, Try.results41, go_sem, a0, a1]) rfl ⟨_, rfl, ?_, (hbel.setCell (by simp) _).setCell (by simp) _, fun j hj => by have := hfh.out j hj; exact ⟨by omega, by simp; omega⟩⟩
      rw [← hres.out]
      refine Nds.turned (S := fun j => j = w.heap.size) huh.out ((Turn.setCell wr (fun j => j = w.heap.size) ⟨w.heap.size, 0, none⟩ (.int .i64 L) rfl).trans (Turn.setCell _ (fun j => j = w.heap.size) ⟨w.heap.size, 1, none⟩ _ rfl) fun _ _ h => h) fun j hj e => ?_
      have := hfh.out j hj
      omega

/-- A bag made both ways; the reference's readings lie in a new block apart from the bag. -/
def MadePost2 (w : World) (L : Int) (l : List Rg) (e : Ending) (w' : World) : Prop :=
  ∃ g v u, e = .returned (.tuple #[.pointer (some ⟨g, 0, none⟩), rb L u]) ∧ BagAt w' g L l v ∧ Nds w' u l ∧ Below w.heap.size w w' ∧ (∀ j, Foot g v j → w.heap.size ≤ j) ∧ ∀ j, u.ownBlock = some j → w.heap.size ≤ j ∧ j < w'.heap.size ∧ ¬ Foot g v j
set_option maxRecDepth 100000 in
set_option maxHeartbeats 4000000 in
theorem made2_c (L : Int) (r : List Rg) (v : Value) (w : World) (hv : Nds w v r) (hrl : r.length ≤ 500) (hL : 1 ≤ L ∧ L ≤ 48) (hwf : RgWf r) :
    Calls Try.prog 14 #[.int .i64 L, v] w (MadePost2 w L (ofF L r)) := by
  have hwfh := hide hwf
  have hOf := hide (fun W (hW : Below w.heap.size w W) => rof2_c L r v W (hv.kept hW) hrl hL)
  obtain ⟨A, c, rfl, _, _, _, hr⟩ := hv
  obtain ⟨n, hn⟩ : ∃ n, Hid (r.length = n) := ⟨_, rfl⟩
  rw [hn.out] at hrl hOf ⊢
  have hrh : Hid (Rd w A r.length 2 (ndc r)) := hr
  obtain ⟨w1, hw1⟩ : ∃ w1, w1 = w.alloc (.cells #[.int .i64 0, .slice none 0 0] 29) := ⟨_, rfl⟩
  have hbx : Blk w1 w.heap.size 29 #[.int .i64 0, .slice none 0 0] := by rw [hw1]; exact Blk.made _ _ _
  have hb1 : Below w.heap.size w w1 := by rw [hw1]; exact balloc0 _ _
  have hz1 : w1.heap.size = w.heap.size + 1 := by rw [hw1]; simp
  have h0 := hide (new_yes L w1 hL.1 hL.2)
  replace hw1 := hide hw1
  have hz1h := hide hz1
  clear hr hwf hz1
  go_enter Try.func14, Try.ntmps14
  go_wp2_with fail
  rw [← hw1.out]
  refine h0.out.mono ?_
  rintro e w2 ⟨rfl, hB2, hb2⟩
  have hstart := hide (show MadeRel w1 w1.heap.size L r n (.int .i64 0) w2 from ⟨0, [], _, by omega, rfl, hB2, Ok.nil, In.nil L, by simp, by show _ = _; rw [List.drop_zero]; rfl, hb2, foot_nil (Nat.le_refl _)⟩)
  clear hB2
  go_wp2_with fail
  go_loopw [24] (fun kv wr => MadeRel w1 w1.heap.size L r n kv wr) (fun kv _ => n - (intOf kv).toNat)
  case atStart => exact hstart.out
  case round =>
    obtain ⟨i, l, v, hi, rfl, hB, hok, hin, hlen, hgo, hbel, hf⟩ := hrel
    have hbw := hb1.trans (hbel.mono hb1.size)
    by_cases hlt : i < n
    · have hil : i < r.length := by rw [hn.out]; exact hlt
      obtain ⟨b, off, rfl, hb, q0, q1⟩ := rd_at (hrh.out.of_below (Nat.le_refl _) hbw) hil
      have hw := hwfh.out r[i] (List.getElem_mem hil)
      rw [List.drop_eq_getElem_cons hil] at hgo
      generalize r[i] = p at *
      obtain ⟨x, y⟩ := p
      simp only at q0 q1 hw
      have hadd := hide (add_c x y w1.heap.size L l v (wr.alloc (.cells #[.int .i64 x, .int .i64 y] 31)) (hB.kept (balloc0 _ _)) hok (by omega) hL hw.2.1 hw.2.2)
      have hok2 := hide (add_ok hok hin x y)
      have hln2 := hide (add_len L l x y)
      have hgo2 : Hid (addAll L (addF L l x y).1 (r.drop (i + 1)) = ofF L r) := by show _ = _; rw [← hgo.out, addAll_cons]
      generalize addF L l x y = G at *
      obtain ⟨l2, er⟩ := G
      simp only at hadd hok2 hln2 hgo2
      have hfh := hide hf
      clear hB hok hin hf hgo hw
      go_wp2_with (go_at_call 12; (with_reducible refine hadd.out.mono ?_); rintro e w5 ⟨rfl, hg5⟩; replace hg5 := hide hg5)
      obtain ⟨v5, hB5, hb5, hf5⟩ := bagged_own hg5.out (balloc hbel _) hfh.out
      go_roundw
      case rel => exact ⟨i + 1, l2, v5, by omega, by go_num, hB5, hok2.out.1, hok2.out.2, by have := hln2.out; omega, hgo2, hb5, hf5⟩
      case measure => simp [intOf]; omega
    · have hres : Hid (l = ofF L r) := by show _ = _; rw [← hgo.out, List.drop_of_length_le (by rw [hn.out]; omega), addAll_nil]
      have hBh := hide hB
      have hfh := hide hf
      have hbz := hbel.size
      have hlt5 := hide (fun j (hj : Foot w1.heap.size v j) => hB.lt j hj)
      clear hB hok hin hf hgo
      go_wp2_with (go_at_call 41; (with_reducible refine (hOf.out _ hbw).mono ?_); rintro e w6 ⟨u6, rfl, hu6, hb6, hf6⟩; have hbx6 := (hbx.kept hbel).kept hb6; have r0 : w6.cell? ⟨w.heap.size, 0, none⟩ = some (.int .i64 0) := (by rw [hbx6.cell]; rfl); have r1 : w6.cell? ⟨w.heap.size, 1, none⟩ = some (.slice none 0 0) := (by rw [hbx6.cell]; rfl); have r2 := hbx6.free 0; have r3 := hbx6.free 1; have r4 := hbx6.lt; have hu6h := hide hu6; obtain ⟨A6, c6, rfl, _, _, _, _⟩ := hu6; replace hf6 := hide hf6)
      have hz1 := hz1h.out
      have ht6 := (Turn.setCell w6 (fun j => j = w.heap.size) ⟨w.heap.size, 0, none⟩ (.int .i64 L) rfl).trans (Turn.setCell _ (fun j => j = w.heap.size) ⟨w.heap.size, 1, none⟩ (.slice A6 (ofF L r).length c6) rfl) fun _ _ h => h
      refine bodyPost_ret (v := .tuple #[.pointer (some ⟨w1.heap.size, 0, none⟩), rb L (.slice A6 (ofF L r).length c6)]) (by simp [results, Try.results14, go_sem, r0, r1]) rfl ⟨_, v, _, rfl, ?_, ?_, ?_, ?_, ?_⟩
      · have := hBh.out.kept hb6
        rw [hres.out] at this
        exact this.turned ht6 fun j hj e => by have := hfh.out j hj; omega
      · exact hu6h.out.turned ht6 fun j hj e => by have := (hf6.out j hj).1; omega
      · exact ((bthen hbw hb6).setCell (by simp) _).setCell (by simp) _
      · exact fun j hj => by have := hfh.out j hj; omega
      · intro j hj
        have k1 := hf6.out j hj
        refine ⟨by have := hb1.size; omega, by simp; omega, fun e => ?_⟩
        have k2 := hlt5.out j e
        omega
end Go.Proofs.Ytkjihbaiofocgaa

/- Layer 10: the reference's bag of readings; a bag made both ways. By the prover of this repo. -/
import Derived.Test.YtkjihbaiofocgaaBagV
import Derived.Test.YtkjihbaiofocgaaBagI
import Derived.Deep.DrawnRows
namespace Go.Proofs.Ytkjihbaiofocgaa
open Go.RowKit
attribute [local go_sem ↓] Go.wp_at_zero Go.wp_at_succ
open TwigM BagM

theorem addAll_nil (L : Int) (l : List Rg) : addAll L l [] = l := rfl
theorem addAll_cons (L : Int) (l : List Rg) (p : Rg) (r : List Rg) : addAll L l (p :: r) = addAll L (addF L l p.1 p.2).1 r := rfl
/-- Both parts of each in their type's bounds. -/
def OfRel (w : World) (L : Int) (r : List Rg) (n : Nat) (kv : Value) (wr : World) : Prop :=
  ∃ (i : Nat) (l : List Rg) (u : Value), i ≤ n ∧ kv = .int .i64 i ∧ Blk wr (w.heap.size + 1) 29 #[.int .i64 L, u] ∧ Blk wr w.heap.size 29 #[.int .i64 0, .slice none 0 0] ∧ Nds wr u l ∧ (∀ j, u.ownBlock = some j → w.heap.size + 2 ≤ j ∧ j < wr.heap.size) ∧ Ok l ∧ In L l ∧ l.length ≤ i ∧
    Hid (addAll L l (r.drop i) = ofF L r) ∧ Below w.heap.size w wr

set_option maxRecDepth 100000 in
set_option maxHeartbeats 4000000 in
theorem rof_c (L : Int) (r : List Rg) (v : Value) (w : World) (hv : Nds w v r) (hrl : r.length ≤ 500) (hL : 1 ≤ L ∧ L ≤ 48) :
    Calls Try.prog 41 #[.int .i64 L, v] w fun e w' => ∃ u, e = .returned (rb L u) ∧ Nds w' u (ofF L r) ∧ Below w.heap.size w w' ∧ ∀ j, u.ownBlock = some j → w.heap.size ≤ j := by
  obtain ⟨A, c, rfl, _, _, _, hr⟩ := hv
  obtain ⟨n, hn⟩ : ∃ n, Hid (r.length = n) := ⟨_, rfl⟩
  rw [hn.out] at hrl ⊢
  have hrh : Hid (Rd w A r.length 2 (ndc r)) := hr
  have hm := hide (show OfRel w L r n (.int .i64 0) ((w.alloc (.cells #[.int .i64 0, .slice none 0 0] 29)).alloc (.cells #[.int .i64 L, .slice none 0 0] 29)) from
    ⟨0, [], .slice none 0 0, by omega, rfl, Blk.made_at _ _ _ (by simp), (Blk.made w _ _).alloc _, Nds.nil _, (fun j hj => by cases hj), Ok.nil, In.nil L, by simp, by show _ = _; rw [List.drop_zero]; rfl, balloc (balloc0 _ _) _⟩)
  clear hr
  go_enter Try.func41, Try.ntmps41
  go_wp2_with fail
  go_loopw [6] (fun kv wr => OfRel w L r n kv wr) (fun kv _ => n - (intOf kv).toNat)
  case atStart => exact hm.out
  case round =>
    obtain ⟨i, l, u, hi, rfl, hB, hA, hu, hf, hok, hin, hlen, hgo, hbel⟩ := hrel
    by_cases hlt : i < n
    · have hil : i < r.length := by rw [hn.out]; exact hlt
      obtain ⟨b, off, rfl, hb, q0, q1⟩ := rd_at (hrh.out.of_below (Nat.le_refl _) hbel) hil
      rw [List.drop_eq_getElem_cons hil] at hgo
      generalize r[i] = p at *
      obtain ⟨x, y⟩ := p
      simp only at q0 q1
      have hadd := hide (fun q : Nat => radd_c x y L l u (wr.drewN q) (hu.kept (below_drewN (Below.refl _ _) q)) hok (by omega) hL fun j hj => (hf j hj).2)
      have hok2 := hide (add_ok hok hin x y)
      have hln2 := hide (add_len L l x y)
      have hgo2 : Hid (addAll L (addF L l x y).1 (r.drop (i + 1)) = ofF L r) := by show _ = _; rw [← hgo.out, addAll_cons]
      obtain ⟨A2, c2, rfl, _, _, _, _⟩ := hu
      have hbz := hbel.size
      have hBz := hB.lt
      have hlt2 : (i : Int) < (n : Int) := by omega
      generalize addF L l x y = G at *
      obtain ⟨l2, er⟩ := G
      simp only at hadd hok2 hln2 hgo2
      have hfh := hide hf
      have e0 : wr.cell? ⟨w.heap.size + 1, 0, none⟩ = some (.int .i64 L) := by rw [hB.cell]; rfl
      have e1 : wr.cell? ⟨w.heap.size + 1, 1, none⟩ = some (.slice A2 l.length c2) := by rw [hB.cell]; rfl
      have hb' : b < wr.heap.size := by omega
      have hBk := hide (fun V (hV : Below wr.drew.heap.size wr.drew V) => hB.drew.kept hV)
      have haddV : Hid (Calls Try.prog 11 #[rb L (.slice A2 l.length c2), .int .i64 x, .int .i64 y] wr.drew (RGives wr.drew L (.slice A2 l.length c2) l2 er)) := hadd.out 1
      have hAh := hide hA
      clear hA hB hadd hok hin hf
      go_wp2_with fail
      go_region_with (go_at_call 11; (with_reducible refine haddV.out.mono ?_); rintro e w5 ⟨u5, rfl, hu5, hb5, hf5⟩; obtain ⟨A5, c5, rfl, y1, y2, y3, y4⟩ := hu5; have hB5 := hBk.out _ hb5; have g0 : w5.cell? ⟨w.heap.size + 1, 0, none⟩ = some (.int .i64 L) := (by rw [hB5.cell]; rfl); have g1 : w5.cell? ⟨w.heap.size + 1, 1, none⟩ = some (.slice A2 l.length c2) := (by rw [hB5.cell]; rfl); have g2 := hB5.lt; have g3 := hB5.free 0; have g4 := hB5.free 1)
      all_goals go_wp2_with fail
      all_goals
        have hne : w.heap.size ≠ w.heap.size + 1 := by omega
        have hownj : ∀ j, (Value.slice A5 l2.length c5).ownBlock = some j → w.heap.size + 2 ≤ j ∧ j < w5.heap.size := fun j hj => by
          obtain ⟨k1, k⟩ := hf5 j hj
          rcases k with k | k
          · exact ⟨(hfh.out j k).1, k1⟩
          · have k2 : wr.heap.size ≤ j := k
            exact ⟨by omega, k1⟩
        refine ⟨⟨i + 1, l2, .slice A5 l2.length c5, by omega, by go_num, ?_, ?_, ?_, (fun j hj => by simpa using hownj j hj), hok2.out.1, hok2.out.2, by have := hln2.out; omega, hgo2, ?_⟩, by simp [intOf]; omega⟩
        · have := (hB5.set 0 (.int .i64 L)).set 1 (.slice A5 l2.length c5)
          simpa using this
        · exact ((hAh.out.drew.kept hb5).off (p := ⟨w.heap.size + 1, 0, none⟩) hne _).off (p := ⟨w.heap.size + 1, 1, none⟩) hne _
        · refine Nds.turned (S := fun j => j = w.heap.size + 1) (w := w5) ⟨A5, c5, rfl, y1, y2, y3, y4⟩ ((Turn.setCell w5 (fun j => j = w.heap.size + 1) ⟨w.heap.size + 1, 0, none⟩ (.int .i64 L) rfl).trans (Turn.setCell _ (fun j => j = w.heap.size + 1) ⟨w.heap.size + 1, 1, none⟩ _ rfl) fun _ _ h => h) fun j hj e => ?_
          have := hownj j hj
          omega
        · exact ((hbel.drew.trans (hb5.mono hbz)).setCell (by simp) _).setCell (by simp) _
    · have hres : Hid (l = ofF L r) := by show _ = _; rw [← hgo.out, List.drop_of_length_le (by rw [hn.out]; omega), addAll_nil]
      have huh := hide hu
      obtain ⟨A2, c2, rfl, _, _, _, _⟩ := hu
      have e0 : wr.cell? ⟨w.heap.size + 1, 0, none⟩ = some (.int .i64 L) := by rw [hB.cell]; rfl
      have e1 : wr.cell? ⟨w.heap.size + 1, 1, none⟩ = some (.slice A2 l.length c2) := by rw [hB.cell]; rfl
      have e2 := hB.lt
      have a0 : wr.cell? ⟨w.heap.size, 0, none⟩ = some (.int .i64 0) := by rw [hA.cell]; rfl
      have a1 : wr.cell? ⟨w.heap.size, 1, none⟩ = some (.slice none 0 0) := by rw [hA.cell]; rfl
      have a2 := hA.free 0
      have a3 := hA.free 1
      have a4 := hA.lt
      have hfh := hide hf
      clear hA hB hok hin hf hgo
      go_wp2_with fail
      refine bodyPost_ret (v := rb L (.slice A2 l.length c2)) (by simp [results, Try.results41, go_sem, a0, a1]) rfl ⟨_, rfl, ?_, (hbel.setCell (by simp) _).setCell (by simp) _, fun j hj => by have := hfh.out j hj; omega⟩
      rw [← hres.out]
      refine Nds.turned (S := fun j => j = w.heap.size) huh.out ((Turn.setCell wr (fun j => j = w.heap.size) ⟨w.heap.size, 0, none⟩ (.int .i64 L) rfl).trans (Turn.setCell _ (fun j => j = w.heap.size) ⟨w.heap.size, 1, none⟩ _ rfl) fun _ _ h => h) fun j hj e => ?_
      have := hfh.out j hj
      omega
end Go.Proofs.Ytkjihbaiofocgaa

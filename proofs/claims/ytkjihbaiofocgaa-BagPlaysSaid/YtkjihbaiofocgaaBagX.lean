/- Layer 10: the walk of the law BagPlays. By the prover of this repo. -/
import Derived.Test.YtkjihbaiofocgaaBagD
namespace Go.Proofs.Ytkjihbaiofocgaa
open Go.RowKit
open TwigM BagM

def PlayRel (w : World) (g q : Nat) (L : Int) (r : List Rg) (n : Nat) (kv : Value) (wr : World) : Prop :=
  ∃ (i : Nat) (l : List Rg) (v u : Value), i ≤ n ∧ kv = .int .i64 i ∧ BagAt wr g L l v ∧ Blk wr q 29 #[.int .i64 L, u] ∧ Nds wr u l ∧ Ok l ∧ In L l ∧ l.length ≤ i ∧ Below w.heap.size w wr ∧ (∀ j, Foot g v j → w.heap.size ≤ j ∧ j ≠ q) ∧ ∀ j, u.ownBlock = some j → ¬ Foot g v j ∧ j ≠ q ∧ j < wr.heap.size

theorem over10 (L : Int) (A : Option Addr) (c : Nat) (n : Nat) (w : World) (hn : 100 < n) :
    Calls Try.prog 3 #[.int .i64 L, .slice A n c] w fun e w' => e = .returned (.bool true) ∧ Below w.heap.size w w' := by
  have hn2 : (100 : Int) < (n : Int) := by omega
  go_enter Try.func3, Try.ntmps3
  go_wp2_with fail
  refine (alive10 _).mono ?_
  rintro e w1 ⟨rfl, hb1⟩
  go_wp2_with fail
  go_ret
  exact ⟨rfl, hb1⟩

set_option maxRecDepth 100000 in
set_option maxHeartbeats 4000000 in
theorem bagPlays_walk (L : Int) (A : Option Addr) (c : Nat) (r : List Rg) (w : World) (_hL : -9223372036854775808 ≤ L ∧ L ≤ 9223372036854775807) (hr : Rd w A r.length 2 (ndc r)) (hA : A = none → r.length = 0) (hc : r.length ≤ c) (hm : c ≤ maxLen) (hwf : RgWf r) :
    Calls Try.prog 3 #[.int .i64 L, .slice A r.length c] w fun e w' => e = .returned (.bool true) ∧ Below w.heap.size w w' := by
  by_cases hn : 100 < r.length
  · exact over10 L A c r.length w hn
  obtain ⟨n, hnn⟩ : ∃ n, Hid (r.length = n) := ⟨_, rfl⟩
  rw [hnn.out] at hn ⊢
  have hrh : Hid (Rd w A r.length 2 (ndc r)) := hr
  have hwfh := hide hwf
  have hn2 : ¬ (100 : Int) < (n : Int) := by omega
  clear hr hA hc hm hwf
  by_cases hL : 1 ≤ L ∧ L ≤ 48
  · have h0 := hide (new_yes L w hL.1 hL.2)
    obtain ⟨hL1, hL2⟩ := hL
    have hLL := hide (show 1 ≤ L ∧ L ≤ 48 from ⟨hL1, hL2⟩)
    go_enter Try.func3, Try.ntmps3
    go_wp2_with fail
    refine h0.out.mono ?_
    rintro e w1 ⟨rfl, hB1, hb1⟩
    have hz1 := hide hB1.blk.lt
    have hstart := hide (show PlayRel w w.heap.size w1.heap.size L r n (.int .i64 0) (w1.alloc (.cells #[.int .i64 L, .slice none 0 0] 29)) from
      ⟨0, [], _, _, by omega, rfl, hB1.kept (balloc0 _ _), Blk.made _ _ _, Nds.nil _, Ok.nil, In.nil L, by simp, balloc hb1 _, (fun j hj => ⟨foot_nil (Nat.le_refl _) j hj, by have := hB1.lt j hj; omega⟩), (fun j hj => by cases hj)⟩)
    clear hB1
    go_wp2_with fail
    go_loopw [46] (fun kv wr => PlayRel w w.heap.size w1.heap.size L r n kv wr) (fun kv _ => n - (intOf kv).toNat)
    case atStart => exact hstart.out
    case round =>
      obtain ⟨i, l, v, u, hi, rfl, hB, hQ, hu, hok, hin, hlen, hbel, hf, hfu⟩ := hrel
      by_cases hlt : i < n
      · have hil : i < r.length := by rw [hnn.out]; exact hlt
        obtain ⟨b, off, rfl, hb, q0, q1⟩ := rd_at (hrh.out.of_below (Nat.le_refl _) hbel) hil
        have hw := hwfh.out r[i] (List.getElem_mem hil)
        generalize r[i] = p at *
        obtain ⟨x, y⟩ := p
        simp only at q0 q1 hw
        have hR := hide (radd_c x y L l u (wr.alloc (.cells #[.int .i64 x, .int .i64 y] 31)) (hu.kept (balloc0 _ _)) hok (by omega) hLL.out fun j hj => by have := (hfu j hj).2.2; simp; omega)
        have hAdd := hide (fun W (h : BagAt W w.heap.size L l v) => add_c x y w.heap.size L l v W h hok (by omega) hLL.out hw.2.1 hw.2.2)
        have hok2 := hide (add_ok hok hin x y)
        have hln2 := hide (add_len L l x y)
        generalize addF L l x y = G at *
        obtain ⟨l2, er⟩ := G
        simp only at hR hAdd hok2 hln2
        have hLike := hide (fun W v2 u2 (h : BagAt W w.heap.size L l2 v2) (h2 : Nds W u2 l2) => like_c w.heap.size L l2 v2 u2 W h h2 hok2.out.1 (by have := hln2.out; omega))
        obtain ⟨Au, cu, rfl, _, _, _, _⟩ := hu
        have a0 : wr.cell? ⟨w1.heap.size, 0, none⟩ = some (.int .i64 L) := by rw [hQ.cell]; rfl
        have a1 : wr.cell? ⟨w1.heap.size, 1, none⟩ = some (.slice Au l.length cu) := by rw [hQ.cell]; rfl
        have a2 := hQ.lt
        have hQh := hide hQ
        have hBh := hide hB
        have hfh := hide hf
        have hfuh := hide hfu
        clear hB hQ hok hin hf hfu hw
        go_wp2_with (go_at_call 11; (with_reducible refine hR.out.mono ?_); rintro e w5 ⟨u5, rfl, hu5, hb5, hf5⟩; obtain ⟨A5, c5, rfl, y1, y2, y3, y4⟩ := hu5; have hQ5 := (hQh.out.alloc (.cells #[.int .i64 x, .int .i64 y] 31)).kept hb5; have hX5 := (Blk.made wr 31 #[.int .i64 x, .int .i64 y]).kept hb5; have g0 : w5.cell? ⟨w1.heap.size, 0, none⟩ = some (.int .i64 L) := (by rw [hQ5.cell]; rfl); have g1 : w5.cell? ⟨w1.heap.size, 1, none⟩ = some (.slice Au l.length cu) := (by rw [hQ5.cell]; rfl); have g2 := hQ5.lt; have g3 := hQ5.free 0; have g4 := hQ5.free 1; have k0 : w5.cell? ⟨wr.heap.size, 0, none⟩ = some (.int .i64 x) := (by rw [hX5.cell]; rfl); have k1 : w5.cell? ⟨wr.heap.size, 1, none⟩ = some (.int .i64 y) := (by rw [hX5.cell]; rfl); have k2 := hX5.lt)
        have hzr := hbel.size
        have hu5 : Nds w5 (.slice A5 l2.length c5) l2 := ⟨A5, c5, rfl, y1, y2, y3, y4⟩
        have hbw5 : Below wr.heap.size wr w5 := (balloc0 _ _).trans (hb5.mono (by simp))
        have hfu5 : ∀ j, (Value.slice A5 l2.length c5).ownBlock = some j → ¬ Foot w.heap.size v j ∧ j ≠ w1.heap.size ∧ j < w5.heap.size := fun j hj => by
          obtain ⟨k1, k⟩ := hf5 j hj
          rcases k with k | k
          · exact ⟨(hfuh.out j k).1, (hfuh.out j k).2.1, k1⟩
          · simp only [World.size_alloc] at k
            exact ⟨fun e => by have := hBh.out.lt j e; omega, by omega, k1⟩
        have hS := (Turn.setCell w5 (fun j => j = w1.heap.size) ⟨w1.heap.size, 0, none⟩ (.int .i64 L) rfl).trans (Turn.setCell _ (fun j => j = w1.heap.size) ⟨w1.heap.size, 1, none⟩ (.slice A5 l2.length c5) rfl) fun _ _ h => h
        have hB6 := ((hBh.out.kept hbw5).turned hS fun j hj e => (hfh.out j hj).2 e).kept (balloc0 _ (.cells #[.int .i64 L, .slice A5 l2.length c5] 29))
        have hz56 : w5.heap.size < (((w5.setCell ⟨w1.heap.size, 0, none⟩ (.int .i64 L)).setCell ⟨w1.heap.size, 1, none⟩ (.slice A5 l2.length c5)).alloc (.cells #[.int .i64 L, .slice A5 l2.length c5] 29)).heap.size := by simp
        have hu6 := (hu5.turned hS fun j hj e => (hfu5 j hj).2.1 e).kept (balloc0 _ (.cells #[.int .i64 L, .slice A5 l2.length c5] 29))
        have hQ6 := ((hQ5.set 0 (.int .i64 L)).set 1 (.slice A5 l2.length c5)).alloc (.cells #[.int .i64 L, .slice A5 l2.length c5] 29)
        have hb6 : Below w.heap.size w (((w5.setCell ⟨w1.heap.size, 0, none⟩ (.int .i64 L)).setCell ⟨w1.heap.size, 1, none⟩ (.slice A5 l2.length c5)).alloc (.cells #[.int .i64 L, .slice A5 l2.length c5] 29)) :=
          (((hbel.trans (hbw5.mono hzr)).setCell (by have := hz1.out; simp; omega) _).setCell (by have := hz1.out; simp; omega) _).alloc (by have := hbw5.size; simp; omega) _
        generalize ((w5.setCell ⟨w1.heap.size, 0, none⟩ (.int .i64 L)).setCell ⟨w1.heap.size, 1, none⟩ (.slice A5 l2.length c5)).alloc (.cells #[.int .i64 L, .slice A5 l2.length c5] 29) = W6 at *
        replace hQ6 : Blk W6 w1.heap.size 29 #[.int .i64 L, .slice A5 l2.length c5] := by simpa using hQ6
        have hqf : ¬ Foot w.heap.size v w1.heap.size := fun e => (hfh.out _ e).2 rfl
        have hff := fun j hj => (hfh.out j hj).1
        refine (hAdd.out _ hB6).mono ?_
        rintro e w7 ⟨rfl, hg7⟩
        obtain ⟨v7, hB7, ht7, hf7⟩ := hg7
        have hQ7 := hQ6.turned ht7 hqf
        have hu7 := hu6.turned ht7 fun j hj => (hfu5 j hj).1
        have hz6 := hb6.size
        have hb7 : Below w.heap.size w w7 := hb6.trans (ht7.below _ hz6 fun j hj e => by have := hff j e; omega)
        have hff7 : ∀ j, Foot w.heap.size v7 j → w.heap.size ≤ j ∧ j ≠ w1.heap.size := fun j hj => by
          rcases hj with rfl | hj
          · exact ⟨Nat.le_refl _, by have := hz1.out; omega⟩
          · rcases hf7 j hj with k | k
            · exact hfh.out j (.inr k)
            · have := hQ6.lt; exact ⟨by omega, by omega⟩
        have hfu7 : ∀ j, (Value.slice A5 l2.length c5).ownBlock = some j → ¬ Foot w.heap.size v7 j ∧ j ≠ w1.heap.size ∧ j < w7.heap.size := fun j hj => by
          obtain ⟨k1, k2, k3⟩ := hfu5 j hj
          have hz7 := ht7.size
          refine ⟨fun e => ?_, k2, by omega⟩
          rcases e with e | e
          · exact k1 (.inl e)
          · rcases hf7 j e with k | k
            · exact k1 (.inr k)
            · omega
        have z0 : w7.cell? ⟨w1.heap.size, 0, none⟩ = some (.int .i64 L) := by rw [hQ7.cell]; rfl
        have z1 : w7.cell? ⟨w1.heap.size, 1, none⟩ = some (.slice A5 l2.length c5) := by rw [hQ7.cell]; rfl
        have z2 := hQ7.lt
        have hL7 := hide (hLike.out _ _ _ hB7 hu7)
        replace hQ7 := hide hQ7
        replace hB7 := hide hB7
        replace hu7 := hide hu7
        clear hQ6 hB6 hu6 hu5 hS
        go_wp2_with fail
        refine hL7.out.mono ?_
        rintro e w8 ⟨rfl, hb8⟩
        go_wp2_with fail
        go_roundw
        case rel => exact ⟨i + 1, l2, v7, _, by omega, by go_num, hB7.out.kept hb8, hQ7.out.kept hb8, hu7.out.kept hb8, hok2.out.1, hok2.out.2, by have := hln2.out; omega, bthen hb7 hb8, hff7, fun j hj => by have h3 := hfu7 j hj; have := hb8.size; exact ⟨h3.1, h3.2.1, by omega⟩⟩
        case measure => simp [intOf]; omega
      · clear hB hQ hu hok hin hf hfu
        go_wp2_with fail
        refine (alive10 _).mono ?_
        rintro e w5 ⟨rfl, hb5⟩
        go_wp2_with fail
        go_ret
        exact ⟨rfl, bthen hbel hb5⟩
  · have h0 := hide (new_no L w hL)
    by_cases h1 : L < 1
    · clear hL
      go_enter Try.func3, Try.ntmps3
      go_wp2_with fail
      refine h0.out.mono ?_
      rintro e w1 ⟨rfl, rfl⟩
      go_wp2_with fail
      refine (alive10 _).mono ?_
      rintro e w1 ⟨rfl, hb1⟩
      go_wp2_with fail
      go_ret
      exact ⟨rfl, hb1⟩
    · have h2 : 48 < L := by omega
      clear hL
      go_enter Try.func3, Try.ntmps3
      go_wp2_with fail
      refine h0.out.mono ?_
      rintro e w1 ⟨rfl, rfl⟩
      go_wp2_with fail
      refine (alive10 _).mono ?_
      rintro e w1 ⟨rfl, hb1⟩
      go_wp2_with fail
      go_ret
      exact ⟨rfl, hb1⟩
end Go.Proofs.Ytkjihbaiofocgaa

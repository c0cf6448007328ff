/- Layer 10: the walk of the law BagMoves. By the prover of this repo. -/
import Derived.Test.YtkjihbaiofocgaaBagPO
import Derived.Test.YtkjihbaiofocgaaBagK
namespace Go.Proofs.Ytkjihbaiofocgaa
open Go.RowKit
open TwigM BagM

theorem image_ok {k L : Int} {r : List Rg} (hr : Ok r) : Ok (imageF k r) ∧ (imageF k r).length ≤ r.length := by
  unfold imageF
  refine ⟨putAll_ok _ _ Ok.nil (fun p hp => ?_) (by rw [tot_cut]; have := hr.most; simp [tot]; omega), ?_⟩
  · unfold cut at hp
    obtain ⟨q, hq, rfl⟩ := List.mem_map.1 hp
    exact hr.pos q hq
  · have := putAll_len (cut k r) []
    simpa [cut] using this

theorem Blk.two {W : World} {q : Nat} {t : TypeId} {a b : Value} (h : Blk W q t #[a, b]) : W.cell? ⟨q, 0, none⟩ = some a ∧ W.cell? ⟨q, 1, none⟩ = some b ∧ q < W.heap.size :=
  ⟨by rw [h.cell]; rfl, by rw [h.cell]; rfl, h.lt⟩
/-- A bag made both ways, apart from all that comes later. -/
structure One (w : World) (g q : Nat) (L : Int) (l : List Rg) (v u : Value) (W : World) : Prop where
  bel : Below w.heap.size w W
  a : BagAt W g L l v
  n1 : Nds W u l
  x1 : Blk W q 29 #[.int .i64 L, u]
  f1 : ∀ j, u.ownBlock = some j → j < W.heap.size
theorem One.kept {w W W' : World} {g q : Nat} {L : Int} {l : List Rg} {v u : Value} (h : One w g q L l v u W) (k : Below W.heap.size W W') : One w g q L l v u W' :=
  ⟨h.bel.trans (k.mono h.bel.size), h.a.kept k, h.n1.kept k, h.x1.kept k, fun j hj => Nat.lt_of_lt_of_le (h.f1 j hj) k.size⟩
/-- What a call that adds to a new bag leaves of what lay before that one. -/
theorem added_below {B W W' : World} {g : Nat} {L : Int} {l : List Rg} {v : Value} (h : Bagged W g L l v W') (hf : ∀ j, Foot g v j → B.heap.size ≤ j) (hb : Below B.heap.size B W) : Below B.heap.size B W' := by
  obtain ⟨v', _, k2, _⟩ := h
  exact hb.trans (k2.below _ hb.size fun j hj e => by have := hf j e; omega)

set_option maxRecDepth 100000 in
set_option maxHeartbeats 8000000 in
theorem bagMoves_walk (L : Int) (A : Option Addr) (c : Nat) (r : List Rg) (x y : Int) (w : World) (_hL : -9223372036854775808 ≤ L ∧ L ≤ 9223372036854775807) (hr : Rd w A r.length 2 (ndc r)) (hA : A = none → r.length = 0) (hc : r.length ≤ c) (hm : c ≤ maxLen) (hwf : RgWf r)
    (_hx : -9223372036854775808 ≤ x ∧ x ≤ 9223372036854775807) (_hy : -9223372036854775808 ≤ y ∧ y ≤ 9223372036854775807) :
    Calls Try.prog 6 #[.int .i64 L, .slice A r.length c, .agg #[.int .i64 x, .int .i64 y]] w fun e w' => e = .returned (.bool true) ∧ Below w.heap.size w w' := by
  have hnr : Nds w (.slice A r.length c) r := ⟨A, c, rfl, hA, hc, hm, hr⟩
  clear hr hA hc hm
  by_cases hg : 60 < r.length ∨ L < 1 ∨ 48 < L
  · clear hnr hwf
    generalize r.length = n at *
    have hcase : ((60 : Int) < (n : Int)) ∨ (¬ (60 : Int) < (n : Int) ∧ L < 1) ∨ (¬ (60 : Int) < (n : Int) ∧ ¬ L < 1 ∧ 48 < L) := by omega
    clear hg
    rcases hcase with h1 | ⟨h1, h3⟩ | ⟨h1, h3, h4⟩
    all_goals
      go_enter Try.func6, Try.ntmps6
      go_wp2_with fail
      refine (alive10 _).mono ?_
      rintro e w1 ⟨rfl, hb1⟩
      go_wp2_with fail
      go_ret
      exact ⟨rfl, bthen (balloc0 _ _) hb1⟩
  · have h1 : ¬ (60 : Int) < (r.length : Int) := by omega
    have h3 : ¬ L < 1 := by omega
    have h4 : ¬ 48 < L := by omega
    have hok := of_ok L r
    have hlen := of_len L r
    have hM := hide (made2_c L r (.slice A r.length c) (w.alloc (.cells #[.int .i64 x, .int .i64 y] 56)) (hnr.kept (balloc0 _ _)) (by omega) (by omega) hwf)
    have hrl : r.length ≤ 60 := by omega
    have hbx := hide (Blk.made w 56 #[.int .i64 x, .int .i64 y])
    clear hg hnr hwf
    generalize ofF L r = l at *
    generalize r.length = n at *
    obtain ⟨ho, hin⟩ := hok
    have hoh := hide ho
    have hinh := hide hin
    have hl : l.length ≤ 500 := by omega
    have him := hide (image_ok (k := x) (L := L) ho)
    clear ho hin
    go_enter Try.func6, Try.ntmps6
    go_wp2_with fail
    refine hM.out.mono ?_
    rintro e w1 ⟨g, v, u, rfl, hB, hu, hb1, hf, hfu⟩
    have hbw1 := bthen (balloc0 _ _) hb1
    have huh := hide hu
    obtain ⟨Au, cu, rfl, _, _, _, _⟩ := hu
    obtain ⟨W0, hW0⟩ : ∃ W0, Hid (W0 = w1.alloc (.cells #[.int .i64 L, .slice Au l.length cu] 29)) := ⟨_, rfl⟩
    have hO : Hid (One w g w1.heap.size L l v (.slice Au l.length cu) W0) := by
      rw [hW0.out]
      exact ⟨balloc hbw1 _, hB.kept (balloc0 _ _), huh.out.kept (balloc0 _ _), Blk.made _ _ _, fun j hj => by have := hfu j hj; simp; omega⟩
    have hX : Hid (Blk W0 w.heap.size 56 #[.int .i64 x, .int .i64 y]) := by rw [hW0.out]; exact (hbx.out.kept hb1).alloc _
    obtain ⟨i0, i1, i2⟩ := (hbx.out.kept hb1).two
    have hfv : Hid (∀ j, Foot g v j → w.heap.size ≤ j) := fun j hj => by have := hf j hj; simp at this; omega
    clear hB huh hf hfu hb1
    go_wp2_with fail
    rw [← hW0.out]
    obtain ⟨q, hq⟩ : ∃ q, w1.heap.size = q := ⟨_, rfl⟩
    rw [hq] at hO ⊢
    clear hq i0 i1 i2 hbw1
    have hbw0 := hide hO.out.bel
    by_cases hk : x < 0 ∨ L ≤ x
    · by_cases hw : y < L ∨ 48 < y
      · have hI := hide (image_no x g L _ l v W0 hO.out.a hk)
        refine hI.out.mono ?_
        rintro e w2 ⟨rfl, rfl⟩
        have hb2 := Below.refl W0.heap.size W0
        have O2 := hO.out.kept hb2
        have X2 := hX.out.kept hb2
        obtain ⟨p0, p1, p2⟩ := O2.x1.two
        obtain ⟨s0, s1, s2⟩ := X2.two
        have hRI := hide (rimage_no x L _ l W0 O2.n1 hk)
        clear O2 X2
        go_wp2_with fail
        refine hRI.out.mono ?_
        rintro e w3 ⟨rfl, hb3⟩
        clear p0 p1 p2 s0 s1 s2
        have hb23 := bthen hb2 hb3
        obtain ⟨s0, s1, s2⟩ := (hX.out.kept hb23).two
        have hb24 := balloc hb23 (.cells #[.int .i64 0, .slice none 0 0] 29)
        have hWi := hide (wider_no y g L l v _ (hO.out.kept hb24).a (by omega))
        have E4 := hide (Blk.made w3 29 #[.int .i64 0, .slice none 0 0])
        go_wp2_with fail
        refine hWi.out.mono ?_
        rintro e w5 ⟨rfl, rfl⟩
        obtain ⟨w5, hw5⟩ : ∃ w5, Hid (w5 = w3.alloc (.cells #[.int .i64 0, .slice none 0 0] 29)) := ⟨_, rfl⟩
        have hb5 : Below (w3.alloc (.cells #[.int .i64 0, .slice none 0 0] 29)).heap.size (w3.alloc (.cells #[.int .i64 0, .slice none 0 0] 29)) w5 := by rw [hw5.out]; exact Below.refl _ _
        have hb25 := bthen hb24 hb5
        rw [← hw5.out]
        have E5 := hide (E4.out.kept hb5)
        have O5 := hO.out.kept hb25
        clear s0 s1 s2
        obtain ⟨p0, p1, p2⟩ := O5.x1.two
        obtain ⟨s0, s1, s2⟩ := (hX.out.kept hb25).two
        have hRW0 := rwider_c y L l _ w5 O5.n1 O5.f1
        have hRW := hide (hRW0.mono (R' := fun e w' => e = Ending.returned (.tuple #[rb 0 (.slice none 0 0), .int .i64 2]) ∧ Below w5.heap.size w5 w') fun e w' ⟨k1, k2⟩ => k2.elim (fun k => absurd k.1 (by omega)) fun k => ⟨k.2, k1⟩)
        clear O5 hRW0
        go_wp2_with fail
        refine hRW.out.mono ?_
        rintro e w6 ⟨rfl, hb6⟩
        clear p0 p1 p2 s0 s1 s2
        have hb57 := balloc hb6 (.cells #[.int .i64 0, .slice none 0 0] 29)
        have hb27 := hide (bthen hb25 hb57)
        have F7 := hide (Blk.made w6 29 #[.int .i64 0, .slice none 0 0])
        have E6 := E5.out.kept hb6
        have E7 := hide (E6.alloc (.cells #[.int .i64 0, .slice none 0 0] 29))
        clear E6
        have O7 := hide (hO.out.kept hb27.out)
        obtain ⟨W7, hW7⟩ : ∃ W7, Hid (W7 = w6.alloc (.cells #[.int .i64 0, .slice none 0 0] 29)) := ⟨_, rfl⟩
        rw [← hW7.out] at O7 E7 F7 hb27
        have hAc := hide (nil_Add 0 1 W7)
        rw [hW7.out] at hAc
        go_wp2_with fail
        refine hAc.out.mono ?_
        rintro e w10 ⟨rfl, rfl⟩
        obtain ⟨w10, hw10⟩ : ∃ w10, Hid (w10 = W7) := ⟨_, rfl⟩
        rw [← hW7.out, ← hw10.out]
        have hbA : Below W0.heap.size W0 w10 := by rw [hw10.out]; exact hb27.out
        have hAd := hide (nil_Add 0 1 w10)
        go_wp2_with fail
        refine hAd.out.mono ?_
        rintro e w11 ⟨rfl, rfl⟩
        have hbB := hbA
        have O11 := hO.out.kept hbB
        obtain ⟨p0, p1, p2⟩ := O11.x1.two
        have hLb := hide (like_c g L l v _ w10 O11.a O11.n1 hoh.out (by omega))
        clear O11
        go_wp2_with fail
        refine hLb.out.mono ?_
        rintro e w12 ⟨rfl, hb12⟩
        go_wp2_with fail
        refine (alive10 _).mono ?_
        rintro e w13 ⟨rfl, hb13⟩
        go_wp2_with fail
        go_ret
        exact ⟨rfl, bthen (bthen (bthen hbw0.out hbB) hb12) hb13⟩
      · have hI := hide (image_no x g L _ l v W0 hO.out.a hk)
        refine hI.out.mono ?_
        rintro e w2 ⟨rfl, rfl⟩
        have hb2 := Below.refl W0.heap.size W0
        have O2 := hO.out.kept hb2
        have X2 := hX.out.kept hb2
        obtain ⟨p0, p1, p2⟩ := O2.x1.two
        obtain ⟨s0, s1, s2⟩ := X2.two
        have hRI := hide (rimage_no x L _ l W0 O2.n1 hk)
        clear O2 X2
        go_wp2_with fail
        refine hRI.out.mono ?_
        rintro e w3 ⟨rfl, hb3⟩
        clear p0 p1 p2 s0 s1 s2
        have hb23 := bthen hb2 hb3
        obtain ⟨s0, s1, s2⟩ := (hX.out.kept hb23).two
        have hb24 := balloc hb23 (.cells #[.int .i64 0, .slice none 0 0] 29)
        have hWi := hide (wider_yes y g L l v _ (hO.out.kept hb24).a (by omega) (by omega))
        have E4 := hide (Blk.made w3 29 #[.int .i64 0, .slice none 0 0])
        go_wp2_with fail
        refine hWi.out.mono ?_
        rintro e w5 ⟨gd, vd, rfl, hBd, hb5, hfd⟩
        have hb25 := bthen hb24 hb5
        have E5 := hide (E4.out.kept hb5)
        have O5 := hO.out.kept hb25
        clear s0 s1 s2
        obtain ⟨p0, p1, p2⟩ := O5.x1.two
        obtain ⟨s0, s1, s2⟩ := (hX.out.kept hb25).two
        have hRW0 := rwider_c y L l _ w5 O5.n1 O5.f1
        have hRW := hide (hRW0.mono (R' := fun e w' => e = Ending.returned (.tuple #[rb y (.slice Au l.length cu), .int .i64 0]) ∧ Below w5.heap.size w5 w') fun e w' ⟨k1, k2⟩ => k2.elim (fun k => ⟨k.2.1, k1⟩) fun k => absurd k.1 (by omega))
        clear O5 hRW0
        go_wp2_with fail
        refine hRW.out.mono ?_
        rintro e w6 ⟨rfl, hb6⟩
        clear p0 p1 p2 s0 s1 s2
        have hb57 := balloc hb6 (.cells #[.int .i64 y, .slice Au l.length cu] 29)
        have hb27 := hide (bthen hb25 hb57)
        have F7 := hide (Blk.made w6 29 #[.int .i64 y, .slice Au l.length cu])
        have E6 := E5.out.kept hb6
        have E7 := hide (E6.alloc (.cells #[.int .i64 y, .slice Au l.length cu] 29))
        clear E6
        have hBd7 := hide (hBd.kept hb57)
        have O7 := hide (hO.out.kept hb27.out)
        obtain ⟨W7, hW7⟩ : ∃ W7, Hid (W7 = w6.alloc (.cells #[.int .i64 y, .slice Au l.length cu] 29)) := ⟨_, rfl⟩
        rw [← hW7.out] at O7 E7 F7 hb27 hBd7
        obtain ⟨f0, f1, f2⟩ := F7.out.two
        rw [hW7.out] at f0 f1 f2
        have hLd := hide (like_c gd y l vd _ W7 (hBd7.out.kept (Below.refl W7.heap.size W7)) ((O7.out.kept (Below.refl W7.heap.size W7)).n1) hoh.out (by omega))
        rw [hW7.out] at hLd
        go_wp2_with fail
        refine hLd.out.mono ?_
        rintro e w9 ⟨rfl, hb9⟩
        rw [← hW7.out] at hb9
        have hb79 := hb9
        clear f0 f1 f2
        have hAc := hide (nil_Add 0 1 w9)
        go_wp2_with fail
        refine hAc.out.mono ?_
        rintro e w10 ⟨rfl, rfl⟩
        have hbA := bthen hb27.out hb79
        obtain ⟨w10, hw10⟩ : ∃ w10, Hid (w10 = w9) := ⟨_, rfl⟩
        rw [← hw10.out] at hbA ⊢
        have hBd10 : Hid (BagAt w10 gd y l vd) := by show BagT _ _ _ _ _ _; rw [hw10.out]; exact hBd7.out.kept hb79
        have hAd := hide (add_c 0 1 gd y l vd w10 hBd10.out hoh.out (by omega) (by omega) (by omega) (by omega))
        go_wp2_with fail
        refine hAd.out.mono ?_
        rintro e w11 ⟨rfl, hg11⟩
        have hbB : Below W0.heap.size W0 w11 := added_below (B := W0) hg11 (fun j hj => by have := hfd j hj; simp only [World.size_alloc] at this; have := hb23.size; omega) hbA
        have O11 := hO.out.kept hbB
        obtain ⟨p0, p1, p2⟩ := O11.x1.two
        have hLb := hide (like_c g L l v _ w11 O11.a O11.n1 hoh.out (by omega))
        clear O11
        go_wp2_with fail
        refine hLb.out.mono ?_
        rintro e w12 ⟨rfl, hb12⟩
        go_wp2_with fail
        refine (alive10 _).mono ?_
        rintro e w13 ⟨rfl, hb13⟩
        go_wp2_with fail
        go_ret
        exact ⟨rfl, bthen (bthen (bthen hbw0.out hbB) hb12) hb13⟩
    · by_cases hw : y < L ∨ 48 < y
      · have hI := hide (image_yes x g L l v W0 hO.out.a hoh.out hinh.out hl (by omega) (by omega))
        refine hI.out.mono ?_
        rintro e w2 ⟨gc, vc, rfl, hBc, hb2, hfc⟩
        have O2 := hO.out.kept hb2
        have X2 := hX.out.kept hb2
        obtain ⟨p0, p1, p2⟩ := O2.x1.two
        obtain ⟨s0, s1, s2⟩ := X2.two
        have hRI := hide (rimage_yes x L _ l w2 O2.n1 hoh.out hinh.out hl (by omega) (by omega))
        clear O2 X2
        go_wp2_with fail
        refine hRI.out.mono ?_
        rintro e w3 ⟨ux, rfl, hux, hb3, hfx⟩
        have huxh := hide hux
        obtain ⟨Ax, cx, rfl, _, _, _, _⟩ := hux
        clear p0 p1 p2 s0 s1 s2
        have hb23 := bthen hb2 hb3
        obtain ⟨s0, s1, s2⟩ := (hX.out.kept hb23).two
        have hb24 := balloc hb23 (.cells #[.int .i64 (L - x), .slice Ax (imageF x l).length cx] 29)
        have hWi := hide (wider_no y g L l v _ (hO.out.kept hb24).a (by omega))
        have E4 := hide (Blk.made w3 29 #[.int .i64 (L - x), .slice Ax (imageF x l).length cx])
        go_wp2_with fail
        refine hWi.out.mono ?_
        rintro e w5 ⟨rfl, rfl⟩
        obtain ⟨w5, hw5⟩ : ∃ w5, Hid (w5 = w3.alloc (.cells #[.int .i64 (L - x), .slice Ax (imageF x l).length cx] 29)) := ⟨_, rfl⟩
        have hb5 : Below (w3.alloc (.cells #[.int .i64 (L - x), .slice Ax (imageF x l).length cx] 29)).heap.size (w3.alloc (.cells #[.int .i64 (L - x), .slice Ax (imageF x l).length cx] 29)) w5 := by rw [hw5.out]; exact Below.refl _ _
        have hb25 := bthen hb24 hb5
        rw [← hw5.out]
        have E5 := hide (E4.out.kept hb5)
        have O5 := hO.out.kept hb25
        clear s0 s1 s2
        obtain ⟨p0, p1, p2⟩ := O5.x1.two
        obtain ⟨s0, s1, s2⟩ := (hX.out.kept hb25).two
        have hRW0 := rwider_c y L l _ w5 O5.n1 O5.f1
        have hRW := hide (hRW0.mono (R' := fun e w' => e = Ending.returned (.tuple #[rb 0 (.slice none 0 0), .int .i64 2]) ∧ Below w5.heap.size w5 w') fun e w' ⟨k1, k2⟩ => k2.elim (fun k => absurd k.1 (by omega)) fun k => ⟨k.2, k1⟩)
        clear O5 hRW0
        go_wp2_with fail
        refine hRW.out.mono ?_
        rintro e w6 ⟨rfl, hb6⟩
        clear p0 p1 p2 s0 s1 s2
        have hb57 := balloc hb6 (.cells #[.int .i64 0, .slice none 0 0] 29)
        have hb27 := hide (bthen hb25 hb57)
        have F7 := hide (Blk.made w6 29 #[.int .i64 0, .slice none 0 0])
        have E6 := E5.out.kept hb6
        obtain ⟨e0, e1, e2⟩ := E6.two
        have E7 := hide (E6.alloc (.cells #[.int .i64 0, .slice none 0 0] 29))
        clear E6
        have hb47 := hide (bthen hb5 hb57)
        have hbc7 := hide (((hb3.trans ((balloc0 w3 (.cells #[.int .i64 (L - x), .slice Ax (imageF x l).length cx] 29)).mono hb3.size)).trans (hb47.out.mono (by have := hb3.size; simp; omega))))
        have hBc7 := hide (hBc.kept hbc7.out)
        have hux7 := hide ((huxh.out.kept (balloc0 w3 (.cells #[.int .i64 (L - x), .slice Ax (imageF x l).length cx] 29))).kept hb47.out)
        have hLc := hide (like_c gc (L - x) _ vc _ (w6.alloc (.cells #[.int .i64 0, .slice none 0 0] 29)) hBc7.out hux7.out him.out.1 (by have := him.out.2; omega))
        have O7 := hide (hO.out.kept hb27.out)
        obtain ⟨W7, hW7⟩ : ∃ W7, Hid (W7 = w6.alloc (.cells #[.int .i64 0, .slice none 0 0] 29)) := ⟨_, rfl⟩
        rw [← hW7.out] at O7 E7 F7 hb27 hBc7 hux7 hLc
        have hLc' := hLc
        rw [hW7.out] at hLc'
        go_wp2_with fail
        refine hLc'.out.mono ?_
        rintro e w8 ⟨rfl, hb8⟩
        rw [← hW7.out] at hb8
        have hAc := hide (add_c 0 1 gc (L - x) _ vc w8 (hBc7.out.kept hb8) him.out.1 (by have := him.out.2; omega) (by omega) (by omega) (by omega))
        go_wp2_with fail
        refine hAc.out.mono ?_
        rintro e w10 ⟨rfl, hg10⟩
        have hz27 := hb2.size
        have hbA : Below W0.heap.size W0 w10 := added_below (B := W0) hg10 (fun j hj => by have := hfc j hj; omega) (bthen hb27.out hb8)
        obtain ⟨vc', hc1, hc2, hc3⟩ := hg10
        have hAd := hide (nil_Add 0 1 w10)
        go_wp2_with fail
        refine hAd.out.mono ?_
        rintro e w11 ⟨rfl, rfl⟩
        have hbB := hbA
        have O11 := hO.out.kept hbB
        obtain ⟨p0, p1, p2⟩ := O11.x1.two
        have hLb := hide (like_c g L l v _ w10 O11.a O11.n1 hoh.out (by omega))
        clear O11
        go_wp2_with fail
        refine hLb.out.mono ?_
        rintro e w12 ⟨rfl, hb12⟩
        go_wp2_with fail
        refine (alive10 _).mono ?_
        rintro e w13 ⟨rfl, hb13⟩
        go_wp2_with fail
        go_ret
        exact ⟨rfl, bthen (bthen (bthen hbw0.out hbB) hb12) hb13⟩
      · have hI := hide (image_yes x g L l v W0 hO.out.a hoh.out hinh.out hl (by omega) (by omega))
        refine hI.out.mono ?_
        rintro e w2 ⟨gc, vc, rfl, hBc, hb2, hfc⟩
        have O2 := hO.out.kept hb2
        have X2 := hX.out.kept hb2
        obtain ⟨p0, p1, p2⟩ := O2.x1.two
        obtain ⟨s0, s1, s2⟩ := X2.two
        have hRI := hide (rimage_yes x L _ l w2 O2.n1 hoh.out hinh.out hl (by omega) (by omega))
        clear O2 X2
        go_wp2_with fail
        refine hRI.out.mono ?_
        rintro e w3 ⟨ux, rfl, hux, hb3, hfx⟩
        have huxh := hide hux
        obtain ⟨Ax, cx, rfl, _, _, _, _⟩ := hux
        clear p0 p1 p2 s0 s1 s2
        have hb23 := bthen hb2 hb3
        obtain ⟨s0, s1, s2⟩ := (hX.out.kept hb23).two
        have hb24 := balloc hb23 (.cells #[.int .i64 (L - x), .slice Ax (imageF x l).length cx] 29)
        have hWi := hide (wider_yes y g L l v _ (hO.out.kept hb24).a (by omega) (by omega))
        have E4 := hide (Blk.made w3 29 #[.int .i64 (L - x), .slice Ax (imageF x l).length cx])
        go_wp2_with fail
        refine hWi.out.mono ?_
        rintro e w5 ⟨gd, vd, rfl, hBd, hb5, hfd⟩
        have hb25 := bthen hb24 hb5
        have E5 := hide (E4.out.kept hb5)
        have O5 := hO.out.kept hb25
        clear s0 s1 s2
        obtain ⟨p0, p1, p2⟩ := O5.x1.two
        obtain ⟨s0, s1, s2⟩ := (hX.out.kept hb25).two
        have hRW0 := rwider_c y L l _ w5 O5.n1 O5.f1
        have hRW := hide (hRW0.mono (R' := fun e w' => e = Ending.returned (.tuple #[rb y (.slice Au l.length cu), .int .i64 0]) ∧ Below w5.heap.size w5 w') fun e w' ⟨k1, k2⟩ => k2.elim (fun k => ⟨k.2.1, k1⟩) fun k => absurd k.1 (by omega))
        clear O5 hRW0
        go_wp2_with fail
        refine hRW.out.mono ?_
        rintro e w6 ⟨rfl, hb6⟩
        clear p0 p1 p2 s0 s1 s2
        have hb57 := balloc hb6 (.cells #[.int .i64 y, .slice Au l.length cu] 29)
        have hb27 := hide (bthen hb25 hb57)
        have F7 := hide (Blk.made w6 29 #[.int .i64 y, .slice Au l.length cu])
        have E6 := E5.out.kept hb6
        obtain ⟨e0, e1, e2⟩ := E6.two
        have E7 := hide (E6.alloc (.cells #[.int .i64 y, .slice Au l.length cu] 29))
        clear E6
        have hb47 := hide (bthen hb5 hb57)
        have hbc7 := hide (((hb3.trans ((balloc0 w3 (.cells #[.int .i64 (L - x), .slice Ax (imageF x l).length cx] 29)).mono hb3.size)).trans (hb47.out.mono (by have := hb3.size; simp; omega))))
        have hBc7 := hide (hBc.kept hbc7.out)
        have hux7 := hide ((huxh.out.kept (balloc0 w3 (.cells #[.int .i64 (L - x), .slice Ax (imageF x l).length cx] 29))).kept hb47.out)
        have hLc := hide (like_c gc (L - x) _ vc _ (w6.alloc (.cells #[.int .i64 y, .slice Au l.length cu] 29)) hBc7.out hux7.out him.out.1 (by have := him.out.2; omega))
        have hBd7 := hide (hBd.kept hb57)
        have O7 := hide (hO.out.kept hb27.out)
        obtain ⟨W7, hW7⟩ : ∃ W7, Hid (W7 = w6.alloc (.cells #[.int .i64 y, .slice Au l.length cu] 29)) := ⟨_, rfl⟩
        rw [← hW7.out] at O7 E7 F7 hb27 hBc7 hux7 hLc hBd7
        have hLc' := hLc
        rw [hW7.out] at hLc'
        go_wp2_with fail
        refine hLc'.out.mono ?_
        rintro e w8 ⟨rfl, hb8⟩
        rw [← hW7.out] at hb8
        clear e0 e1 e2
        obtain ⟨f0, f1, f2⟩ := (F7.out.kept hb8).two
        have hLd := hide (like_c gd y l vd _ w8 (hBd7.out.kept hb8) ((O7.out.kept hb8).n1) hoh.out (by omega))
        go_wp2_with fail
        refine hLd.out.mono ?_
        rintro e w9 ⟨rfl, hb9⟩
        have hb79 := bthen hb8 hb9
        clear f0 f1 f2
        have hAc := hide (add_c 0 1 gc (L - x) _ vc w9 (hBc7.out.kept hb79) him.out.1 (by have := him.out.2; omega) (by omega) (by omega) (by omega))
        go_wp2_with fail
        refine hAc.out.mono ?_
        rintro e w10 ⟨rfl, hg10⟩
        have hz27 := hb2.size
        have hbA : Below W0.heap.size W0 w10 := added_below (B := W0) hg10 (fun j hj => by have := hfc j hj; omega) (bthen hb27.out hb79)
        obtain ⟨vc', hc1, hc2, hc3⟩ := hg10
        have hBd10 := hide ((hBd7.out.kept hb79).turned hc2 fun j hj e => by
          have k1 := hfd j hj
          have k2 : j < w5.heap.size := hBd.lt j hj
          have k3 := hBc.lt j e
          have k4 := hb3.size
          simp only [World.size_alloc] at k1
          omega)
        have hAd := hide (add_c 0 1 gd y l vd w10 hBd10.out hoh.out (by omega) (by omega) (by omega) (by omega))
        go_wp2_with fail
        refine hAd.out.mono ?_
        rintro e w11 ⟨rfl, hg11⟩
        have hbB : Below W0.heap.size W0 w11 := added_below (B := W0) hg11 (fun j hj => by have := hfd j hj; simp only [World.size_alloc] at this; have := hb23.size; omega) hbA
        have O11 := hO.out.kept hbB
        obtain ⟨p0, p1, p2⟩ := O11.x1.two
        have hLb := hide (like_c g L l v _ w11 O11.a O11.n1 hoh.out (by omega))
        clear O11
        go_wp2_with fail
        refine hLb.out.mono ?_
        rintro e w12 ⟨rfl, hb12⟩
        go_wp2_with fail
        refine (alive10 _).mono ?_
        rintro e w13 ⟨rfl, hb13⟩
        go_wp2_with fail
        go_ret
        exact ⟨rfl, bthen (bthen (bthen hbw0.out hbB) hb12) hb13⟩
end Go.Proofs.Ytkjihbaiofocgaa

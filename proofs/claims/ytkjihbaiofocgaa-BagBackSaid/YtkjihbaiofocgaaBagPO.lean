/- Layer 10: the walk of the law BagPours. By the prover of this repo. -/
import Derived.Test.YtkjihbaiofocgaaBagD2
import Derived.Test.YtkjihbaiofocgaaBagT
namespace Go.Proofs.Ytkjihbaiofocgaa
open Go.RowKit
open TwigM BagM

/-- Two bags, made both ways, apart. -/
structure Two (w : World) (g1 g2 q1 q2 : Nat) (L M : Int) (l1 l2 : List Rg) (v1 v2 u1 u2 : Value) (W : World) : Prop where
  bel : Below w.heap.size w W
  a : BagAt W g1 L l1 v1
  b : BagAt W g2 M l2 v2
  n1 : Nds W u1 l1
  n2 : Nds W u2 l2
  x1 : Blk W q1 29 #[.int .i64 L, u1]
  x2 : Blk W q2 29 #[.int .i64 M, u2]
  fa : ∀ j, Foot g1 v1 j → w.heap.size ≤ j ∧ j ≠ q1 ∧ j ≠ q2
  fb : ∀ j, Foot g2 v2 j → w.heap.size ≤ j ∧ j ≠ q1 ∧ j ≠ q2
  dis : ∀ j, Foot g1 v1 j → ¬ Foot g2 v2 j
  f1 : ∀ j, u1.ownBlock = some j → j < W.heap.size ∧ ¬ Foot g1 v1 j ∧ ¬ Foot g2 v2 j
  f2 : ∀ j, u2.ownBlock = some j → j < W.heap.size ∧ ¬ Foot g1 v1 j ∧ ¬ Foot g2 v2 j
section
variable {w W W' : World} {g1 g2 q1 q2 : Nat} {L M : Int} {l1 l2 l1' l2' : List Rg} {v1 v2 u1 u2 : Value}
theorem Two.kept (h : Two w g1 g2 q1 q2 L M l1 l2 v1 v2 u1 u2 W) (k : Below W.heap.size W W') : Two w g1 g2 q1 q2 L M l1 l2 v1 v2 u1 u2 W' :=
  ⟨h.bel.trans (k.mono h.bel.size), h.a.kept k, h.b.kept k, h.n1.kept k, h.n2.kept k, h.x1.kept k, h.x2.kept k, h.fa, h.fb, h.dis,
    (fun j hj => ⟨Nat.lt_of_lt_of_le (h.f1 j hj).1 k.size, (h.f1 j hj).2⟩), fun j hj => ⟨Nat.lt_of_lt_of_le (h.f2 j hj).1 k.size, (h.f2 j hj).2⟩⟩
end
/-- Behind a call that turned the first bag: that one anew, the other one and the lists as they were. -/
theorem two_a {w W W' : World} {g1 g2 q1 q2 : Nat} {L M : Int} {l1 l2 l1' : List Rg} {v1 v2 u1 u2 : Value} (h : Two w g1 g2 q1 q2 L M l1 l2 v1 v2 u1 u2 W) (k : Bagged W g1 L l1' v1 W') :
    (∃ v1', BagAt W' g1 L l1' v1') ∧ Below w.heap.size w W' ∧ BagAt W' g2 M l2 v2 ∧ Nds W' u2 l2 ∧ Blk W' q2 29 #[.int .i64 M, u2] ∧ (∀ (u : Value) (l : List Rg), Nds W u l → (∀ j, u.ownBlock = some j → ¬ Foot g1 v1 j) → Nds W' u l) ∧
      (∀ (q : Nat) (t : TypeId) (cs : Array Value), Blk W q t cs → ¬ Foot g1 v1 q → Blk W' q t cs) := by
  obtain ⟨v1', k1, k2, _⟩ := k
  have hs := h.bel.size
  exact ⟨⟨v1', k1⟩, h.bel.trans (k2.below _ hs fun j hj e => by have := (h.fa j e).1; omega), h.b.turned k2 fun j hj e => h.dis j e hj, h.n2.turned k2 fun j hj => (h.f2 j hj).2.1, h.x2.turned k2 fun e => (h.fa _ e).2.2 rfl,
    (fun u l hu hf => hu.turned k2 hf), fun q t cs hq hn => hq.turned k2 hn⟩

theorem pour_ok {L M : Int} {l r : List Rg} (hl : Ok l) (hr : Ok r) : Ok (pourF L M l r).1 := by
  unfold pourF
  split
  · exact hl
  · split
    · exact hl
    · rename_i h1 h2
      exact putAll_ok r l hl hr.pos (by omega)
theorem pour_len {L M : Int} {l r : List Rg} : (pourF L M l r).1.length ≤ l.length + r.length := by
  unfold pourF
  split
  · simp
  · split
    · simp
    · exact putAll_len r l

set_option maxRecDepth 100000 in
set_option maxHeartbeats 8000000 in
theorem bagPours_walk (L M : Int) (A : Option Addr) (c : Nat) (r1 : List Rg) (B : Option Addr) (d : Nat) (r2 : List Rg) (w : World) (_hL : -9223372036854775808 ≤ L ∧ L ≤ 9223372036854775807) (_hM : -9223372036854775808 ≤ M ∧ M ≤ 9223372036854775807)
    (hr : Rd w A r1.length 2 (ndc r1)) (hA : A = none → r1.length = 0) (hc : r1.length ≤ c) (hm : c ≤ maxLen) (hwf : RgWf r1) (hr2 : Rd w B r2.length 2 (ndc r2)) (hB : B = none → r2.length = 0) (hd : r2.length ≤ d) (hm2 : d ≤ maxLen) (hwf2 : RgWf r2) :
    Calls Try.prog 7 #[.int .i64 L, .int .i64 M, .agg #[.slice A r1.length c, .slice B r2.length d]] w fun e w' => e = .returned (.bool true) ∧ Below w.heap.size w w' := by
  have hn1 : Nds w (.slice A r1.length c) r1 := ⟨A, c, rfl, hA, hc, hm, hr⟩
  have hn2 : Nds w (.slice B r2.length d) r2 := ⟨B, d, rfl, hB, hd, hm2, hr2⟩
  clear hr hA hc hm hr2 hB hd hm2
  by_cases hg : 60 < r1.length ∨ 60 < r2.length ∨ L < 1 ∨ 48 < L ∨ M < 1 ∨ 48 < M
  · clear hn1 hn2 hwf hwf2
    generalize r1.length = n1 at *
    generalize r2.length = n2 at *
    have hcase : ((60 : Int) < (n1 : Int)) ∨ (¬ (60 : Int) < (n1 : Int) ∧ (60 : Int) < (n2 : Int)) ∨ (¬ (60 : Int) < (n1 : Int) ∧ ¬ (60 : Int) < (n2 : Int) ∧ L < 1) ∨ (¬ (60 : Int) < (n1 : Int) ∧ ¬ (60 : Int) < (n2 : Int) ∧ ¬ L < 1 ∧ 48 < L) ∨
      (¬ (60 : Int) < (n1 : Int) ∧ ¬ (60 : Int) < (n2 : Int) ∧ ¬ L < 1 ∧ ¬ 48 < L ∧ M < 1) ∨ (¬ (60 : Int) < (n1 : Int) ∧ ¬ (60 : Int) < (n2 : Int) ∧ ¬ L < 1 ∧ ¬ 48 < L ∧ ¬ M < 1 ∧ 48 < M) := by omega
    clear hg
    rcases hcase with h1 | ⟨h1, h2⟩ | ⟨h1, h2, h3⟩ | ⟨h1, h2, h3, h4⟩ | ⟨h1, h2, h3, h4, h5⟩ | ⟨h1, h2, h3, h4, h5, h6⟩
    all_goals
      go_enter Try.func7, Try.ntmps7
      go_wp2_with fail
      refine (alive10 _).mono ?_
      rintro e w1 ⟨rfl, hb1⟩
      go_wp2_with fail
      go_ret
      exact ⟨rfl, bthen (balloc0 _ _) hb1⟩
  · have h1 : ¬ (60 : Int) < (r1.length : Int) := by omega
    have h2 : ¬ (60 : Int) < (r2.length : Int) := by omega
    have h3 : ¬ L < 1 := by omega
    have h4 : ¬ 48 < L := by omega
    have h5 : ¬ M < 1 := by omega
    have h6 : ¬ 48 < M := by omega
    have hok1 := of_ok L r1
    have hok2 := of_ok M r2
    have hlen1 := of_len L r1
    have hlen2 := of_len M r2
    have hM1 := hide (made2_c L r1 (.slice A r1.length c) (w.alloc (.cells #[.slice A r1.length c, .slice B r2.length d] 51)) (hn1.kept (balloc0 _ _)) (by omega) (by omega) hwf)
    have hM2 := hide (fun W (hW : Below w.heap.size w W) => made2_c M r2 (.slice B r2.length d) W (hn2.kept hW) (by omega) (by omega) hwf2)
    have hrl1 : r1.length ≤ 60 := by omega
    have hrl2 : r2.length ≤ 60 := by omega
    have hbx := Blk.made w 51 #[.slice A r1.length c, .slice B r2.length d]
    clear hg hn1 hn2 hwf hwf2
    generalize ofF L r1 = l1 at *
    generalize ofF M r2 = l2 at *
    generalize r1.length = n1 at *
    generalize r2.length = n2 at *
    obtain ⟨ho1, hi1⟩ := hok1
    obtain ⟨ho2, hi2⟩ := hok2
    have ho1h := hide ho1
    have ho2h := hide ho2
    have hl1 : l1.length ≤ 500 := by omega
    have hl2 : l2.length ≤ 500 := by omega
    clear ho1 ho2 hi1 hi2
    go_enter Try.func7, Try.ntmps7
    go_wp2_with fail
    refine hM1.out.mono ?_
    rintro e w1 ⟨g1, v1, u1, rfl, hB1, hu1, hb1, hf1, hfu1⟩
    have hbw1 := bthen (balloc0 _ _) hb1
    have hbx1 := hbx.kept hb1
    have i0 : w1.cell? ⟨w.heap.size, 0, none⟩ = some (.slice A n1 c) := by rw [hbx1.cell]; rfl
    have i1 : w1.cell? ⟨w.heap.size, 1, none⟩ = some (.slice B n2 d) := by rw [hbx1.cell]; rfl
    have i2 := hbx1.lt
    have hu1h := hide hu1
    obtain ⟨A1, c1, rfl, _, _, _, _⟩ := hu1
    have hx1 := Blk.made w1 29 #[.int .i64 L, .slice A1 l1.length c1]
    have hM2' := hide (hM2.out _ (balloc hbw1 (.cells #[.int .i64 L, .slice A1 l1.length c1] 29)))
    have hB1h := hide hB1
    clear hB1 hbx hM2
    go_wp2_with fail
    refine hM2'.out.mono ?_
    rintro e w2 ⟨g2, v2, u2, rfl, hB2, hu2, hb2, hf2, hfu2⟩
    have hu2h := hide hu2
    obtain ⟨A2, c2, rfl, _, _, _, _⟩ := hu2
    have hbw2 := bthen (balloc hbw1 (.cells #[.int .i64 L, .slice A1 l1.length c1] 29)) hb2
    have hb12 : Below w1.heap.size w1 w2 := (balloc0 _ _).trans (hb2.mono (by simp))
    have hz1 := hb2.size
    simp only [World.size_alloc] at hz1
    have hzw := hbw1.size
    have hT : Hid (Two w g1 g2 w1.heap.size w2.heap.size L M l1 l2 v1 v2 (.slice A1 l1.length c1) (.slice A2 l2.length c2) (w2.alloc (.cells #[.int .i64 M, .slice A2 l2.length c2] 29))) := by
      simp only [World.size_alloc] at hf1 hfu1 hf2 hfu2
      refine ⟨balloc hbw2 _, (hB1h.out.kept hb12).kept (balloc0 _ _), hB2.kept (balloc0 _ _), (hu1h.out.kept hb12).kept (balloc0 _ _), hu2h.out.kept (balloc0 _ _), (hx1.kept hb2).alloc _, Blk.made _ _ _, fun j hj => ?_, fun j hj => ?_, fun j hj e => ?_, fun j hj => ?_, fun j hj => ?_⟩
      · have q1 := hf1 j hj
        have q2 := hB1h.out.lt j hj
        omega
      · have q1 := hf2 j hj
        have q2 := hB2.lt j hj
        omega
      · have q1 := hf2 j e
        have q2 := hB1h.out.lt j hj
        omega
      · have q1 := hfu1 j hj
        refine ⟨by simp; omega, q1.2.2, fun e => by have := hf2 j e; omega⟩
      · have q1 := hfu2 j hj
        refine ⟨by simp; omega, fun e => by have := hB1h.out.lt j e; omega, q1.2.2⟩
    clear hB1h hB2 hu1h hu2h hf1 hf2 hfu1 hfu2 hx1 hbx1 hb12 hb1 hb2 i0 i1 i2
    go_wp2_with fail
    obtain ⟨W3, hW3⟩ : ∃ W3, Hid (W3 = w2.alloc (.cells #[.int .i64 M, .slice A2 l2.length c2] 29)) := ⟨_, rfl⟩
    rw [← hW3.out] at hT ⊢
    obtain ⟨q1, hq1⟩ : ∃ q1, w1.heap.size = q1 := ⟨_, rfl⟩
    obtain ⟨q2, hq2⟩ : ∃ q2, w2.heap.size = q2 := ⟨_, rfl⟩
    rw [hq1, hq2] at hT ⊢
    clear hq1 hq2 hz1 hzw hbw1 hbw2
    have x10 : W3.cell? ⟨q1, 0, none⟩ = some (.int .i64 L) := by rw [hT.out.x1.cell]; rfl
    have x11 : W3.cell? ⟨q1, 1, none⟩ = some (.slice A1 l1.length c1) := by rw [hT.out.x1.cell]; rfl
    have x12 := hT.out.x1.lt
    have x20 : W3.cell? ⟨q2, 0, none⟩ = some (.int .i64 M) := by rw [hT.out.x2.cell]; rfl
    have x21 : W3.cell? ⟨q2, 1, none⟩ = some (.slice A2 l2.length c2) := by rw [hT.out.x2.cell]; rfl
    have x22 := hT.out.x2.lt
    have c1' := hide (fun (e : Later W3.heap.size W3) => bsame_c g1 g2 L M _ _ l1 l2 v1 v2 e.val (hT.out.a.kept e.property) (hT.out.b.kept e.property) (by omega) (by omega))
    have c2' := hide (fun (e : Later W3.heap.size W3) => rsame_c L M l1 l2 _ _ e.val (hT.out.n1.kept e.property) (hT.out.n2.kept e.property) (by omega) (by omega))
    have c3' := fun (e : Later W3.heap.size W3) => bsame_c g1 g1 L L _ _ l1 l1 v1 v1 e.val (hT.out.a.kept e.property) (hT.out.a.kept e.property) (by omega) (by omega)
    rw [decide_eq_true (⟨rfl, rfl⟩ : L = L ∧ l1 = l1)] at c3'
    replace c3' := hide c3'
    generalize decide (L = M ∧ l1 = l2) = D at *
    refine wp_region_later (by kernel_rfl) (by kernel_rfl) ?_
    repeat (go_big_quiet_step (first
      | (go_at_call 28; (with_reducible exact calls_later (c1'.out _)))
      | (go_at_call 28; (with_reducible exact calls_later (c3'.out _)))
      | (go_at_call 29; (with_reducible exact calls_later (c2'.out _)))
      | exact rfl))
    refine wpQuiet_nil ?_
    rintro _ ⟨e4, rfl⟩
    have hb34 := e4.property
    generalize e4.val = W at *
    have T1 := hT.out.kept hb34
    have y10 : W.cell? ⟨q1, 0, none⟩ = some (.int .i64 L) := by rw [T1.x1.cell]; rfl
    have y11 : W.cell? ⟨q1, 1, none⟩ = some (.slice A1 l1.length c1) := by rw [T1.x1.cell]; rfl
    have y12 := T1.x1.lt
    have y20 : W.cell? ⟨q2, 0, none⟩ = some (.int .i64 M) := by rw [T1.x2.cell]; rfl
    have y21 : W.cell? ⟨q2, 1, none⟩ = some (.slice A2 l2.length c2) := by rw [T1.x2.cell]; rfl
    have y22 := T1.x2.lt
    have hR := rpour_c L M l1 l2 _ _ W T1.n1 T1.n2 ho1h.out ho2h.out hl1 hl2 fun j hj => (T1.f1 j hj).1
    have hPo := fun (V : World) (hV : Below W.heap.size W V) => pour_c g1 g2 L M l1 l2 v1 v2 V (T1.a.kept hV) (T1.b.kept hV) ho1h.out ho2h.out hl1 hl2
    have hpk := hide (pour_ok (L := L) (M := M) ho1h.out ho2h.out)
    have hpl := pour_len (L := L) (M := M) (l := l1) (r := l2)
    generalize pourF L M l1 l2 = G at *
    obtain ⟨lp, ep⟩ := G
    simp only at hR hPo hpk hpl
    have hpl2 : lp.length ≤ 1000 := by omega
    replace hR := hide hR
    replace hPo := hide hPo
    have T1h := hide T1
    clear x10 x11 x12 x20 x21 x22 c1' c2' c3' hT hb34 T1
    go_wp2_with fail
    refine hR.out.mono ?_
    rintro e w5 ⟨u3, rfl, hu3, hb5, hf3⟩
    have T5 := T1h.out.kept hb5
    have hu3h := hide hu3
    obtain ⟨A3, c3, rfl, _, _, _, _⟩ := hu3
    have T6 := T5.kept (balloc0 w5 (.cells #[.int .i64 L, .slice A3 lp.length c3] 29))
    have hu6 := hu3h.out.kept (balloc0 w5 (.cells #[.int .i64 L, .slice A3 lp.length c3] 29))
    have hx3 := Blk.made w5 29 #[.int .i64 L, .slice A3 lp.length c3]
    have hP5 := hide (hPo.out _ (hb5.trans ((balloc0 w5 (.cells #[.int .i64 L, .slice A3 lp.length c3] 29)).mono hb5.size)))
    have hff3 : ∀ j, (Value.slice A3 lp.length c3).ownBlock = some j → ¬ Foot g1 v1 j := fun j hj e => by
      obtain ⟨_, k⟩ := hf3 j hj
      rcases k with k | k
      · exact (T1h.out.f1 j k).2.1 e
      · have := T1h.out.a.lt j e; omega
    have hq3 : ¬ Foot g1 v1 w5.heap.size := fun e => by have := T5.a.lt _ e; omega
    have T6h := hide T6
    have hu6h := hide hu6
    have hx3h := hide hx3
    clear T5 T6 hu6 hx3 hf3 y10 y11 y12 y20 y21 y22
    go_wp2_with fail
    refine hP5.out.mono ?_
    rintro e w7 ⟨rfl, hg7⟩
    obtain ⟨⟨v1', k1⟩, k2, k3, k4, k5, k6, k7⟩ := two_a T6h.out hg7
    have hu7 := k6 _ _ hu6h.out hff3
    have hx7 := k7 _ _ _ hx3h.out hq3
    have z30 : w7.cell? ⟨w5.heap.size, 0, none⟩ = some (.int .i64 L) := by rw [hx7.cell]; rfl
    have z31 : w7.cell? ⟨w5.heap.size, 1, none⟩ = some (.slice A3 lp.length c3) := by rw [hx7.cell]; rfl
    have z32 := hx7.lt
    have hL1 := hide (like_c g1 L lp v1' _ w7 k1 hu7 hpk.out hpl2)
    obtain ⟨_, _, hz7⟩ : True ∧ True ∧ (W.heap.size ≤ w7.heap.size) := by
      obtain ⟨vv, _, tt, _⟩ := hg7
      have := tt.size
      have := hb5.size
      simp only [World.size_alloc] at *
      exact ⟨trivial, trivial, by omega⟩
    have hf2' := hide (fun j (hj : (Value.slice A2 l2.length c2).ownBlock = some j) => show j < w7.heap.size ∧ ¬ Foot g2 v2 j from ⟨by have := (T1h.out.f2 j hj).1; omega, (T1h.out.f2 j hj).2.2⟩)
    have hfb := hide T1h.out.fb
    have k2h := hide k2
    have k3h := hide k3
    have k4h := hide k4
    have k5h := hide k5
    clear k1 k2 k3 k4 k5 k6 k7 hu7 hg7 hu6h hx3h hP5 T6h
    go_wp2_with fail
    refine hL1.out.mono ?_
    rintro e w8 ⟨rfl, hb8⟩
    have hx8 := k5h.out.kept hb8
    have z20 : w8.cell? ⟨q2, 0, none⟩ = some (.int .i64 M) := by rw [hx8.cell]; rfl
    have z21 : w8.cell? ⟨q2, 1, none⟩ = some (.slice A2 l2.length c2) := by rw [hx8.cell]; rfl
    have z22 := hx8.lt
    have hL2 := hide (like_c g2 M l2 v2 _ w8 (k3h.out.kept hb8) (k4h.out.kept hb8) ho2h.out (by omega))
    go_wp2_with fail
    refine hL2.out.mono ?_
    rintro e w9 ⟨rfl, hb9⟩
    have hb79 := bthen hb8 hb9
    have hx9 := k5h.out.kept hb79
    have s20 : w9.cell? ⟨q2, 0, none⟩ = some (.int .i64 M) := by rw [hx9.cell]; rfl
    have s21 : w9.cell? ⟨q2, 1, none⟩ = some (.slice A2 l2.length c2) := by rw [hx9.cell]; rfl
    have s22 := hx9.lt
    have hB9 := k3h.out.kept hb79
    have hu9 := k4h.out.kept hb79
    have hz79 := hb79.size
    have hR2 := rpour_c M M l2 l2 _ _ w9 hu9 hu9 ho2h.out ho2h.out hl2 hl2 fun j hj => by have := (hf2'.out j hj).1; omega
    have hPo2 := fun (V : World) (hV : Below w9.heap.size w9 V) => pour_c g2 g2 M M l2 l2 v2 v2 V (hB9.kept hV) (hB9.kept hV) ho2h.out ho2h.out hl2 hl2
    have hpk2 := hide (pour_ok (L := M) (M := M) ho2h.out ho2h.out)
    have hpl3 := pour_len (L := M) (M := M) (l := l2) (r := l2)
    generalize pourF M M l2 l2 = G at *
    obtain ⟨l4, e4'⟩ := G
    simp only at hR2 hPo2 hpk2 hpl3
    have hpl4 : l4.length ≤ 1000 := by omega
    replace hR2 := hide hR2
    replace hPo2 := hide hPo2
    have hB9h := hide hB9
    clear z20 z21 z22 z30 z31 z32 hB9 hu9
    go_wp2_with fail
    refine hR2.out.mono ?_
    rintro e w10 ⟨u4, rfl, hu4, hb10, hf4⟩
    have hu4h := hide hu4
    obtain ⟨A4, c4, rfl, _, _, _, _⟩ := hu4
    have hu11 := hide (hu4h.out.kept (balloc0 w10 (.cells #[.int .i64 M, .slice A4 l4.length c4] 29)))
    have hx4 := hide (Blk.made w10 29 #[.int .i64 M, .slice A4 l4.length c4])
    have hP10 := hide (hPo2.out _ (hb10.trans ((balloc0 w10 (.cells #[.int .i64 M, .slice A4 l4.length c4] 29)).mono hb10.size)))
    have hz10 := hb10.size
    have hff4 := hide (fun j (hj : (Value.slice A4 l4.length c4).ownBlock = some j) => show ¬ Foot g2 v2 j from fun e => by
      obtain ⟨_, k⟩ := hf4 j hj
      rcases k with k | k
      · exact (hf2'.out j k).2 e
      · have := hB9h.out.lt j e; omega)
    have hq4 := hide (show ¬ Foot g2 v2 w10.heap.size from fun e => by have := hB9h.out.lt _ e; omega)
    have hbw10 := hide (show Below w.heap.size w (w10.alloc (.cells #[.int .i64 M, .slice A4 l4.length c4] 29)) from balloc (bthen (bthen k2h.out hb79) hb10) _)
    clear s20 s21 s22 hf4
    go_wp2_with fail
    refine hP10.out.mono ?_
    rintro e w11 ⟨rfl, v2', m1, m2, m3⟩
    have hu12 := hu11.out.turned m2 hff4.out
    have hx12 := hx4.out.turned m2 hq4.out
    have t0 : w11.cell? ⟨w10.heap.size, 0, none⟩ = some (.int .i64 M) := by rw [hx12.cell]; rfl
    have t1 : w11.cell? ⟨w10.heap.size, 1, none⟩ = some (.slice A4 l4.length c4) := by rw [hx12.cell]; rfl
    have t2 := hx12.lt
    have hL3 := hide (like_c g2 M l4 v2' _ w11 m1 hu12 hpk2.out hpl4)
    have hbw11 := hide (hbw10.out.trans (m2.below _ hbw10.out.size fun j hj e => by have := (hfb.out j e).1; omega))
    clear m1 m2 m3 hu12 hx12
    go_wp2_with fail
    refine hL3.out.mono ?_
    rintro e w12 ⟨rfl, hb12⟩
    go_wp2_with fail
    refine (alive10 _).mono ?_
    rintro e w13 ⟨rfl, hb13⟩
    go_wp2_with fail
    go_ret
    exact ⟨rfl, bthen (bthen hbw11.out hb12) hb13⟩
end Go.Proofs.Ytkjihbaiofocgaa

/- The chapter's example; the law GroveHangs, walked. By the prover of this repo. -/
import Derived.Test.YtcpakoobgcdekaaDoorGroveZ
namespace Go.Proofs.YtcpakoobgcdekaaDoor
open Go.RowKit Go.Shelf

theorem rd_none0 {w : World} {A : Option Addr} {n size : Nat} {f : Nat → Value} (h : Rd w A n size f) (hA : A = none) : n = 0 := by
  by_cases hn : 0 < n
  · obtain ⟨b, off, e, _⟩ := h hn
    rw [hA] at e
    cases e
  · omega
def exP : List Int := [-1, 0, 0, 1]
theorem ex_order : orderF exP = [3, 1, 2, 0] := by decide +kernel
theorem ex_tree : treeE exP = 0 := by decide +kernel
theorem ex_wrong : wrongF exP 1 = 0 := by decide +kernel
theorem ex_walk : walkF exP 48 1 = [3, 1] := by decide +kernel
theorem ex_hang : hangF exP 1 3 = ([], 15) := by decide +kernel
theorem ex_below {s : Nat} (h : BelF exP 1 s) : s = 10 := by
  apply Nat.eq_of_testBit_eq
  intro j
  rw [h.2, ex_wrong, show (1 : Int).toNat = 1 from rfl, ex_walk]
  match j with
  | 0 => rfl
  | 1 => rfl
  | 2 => rfl
  | 3 => rfl
  | j + 4 =>
    have h1 : (10 : Nat).testBit (j + 4) = false := Nat.testBit_lt_two_pow (by rw [Nat.pow_add]; have := Nat.two_pow_pos j; omega)
    rw [h1]
    simp
set_option maxRecDepth 100000 in
theorem alive28 (w : World) (hT : Tz w) : Calls Tryd.prog 11 #[] w fun e w' => e = .returned (.bool true) ∧ Below w.heap.size w w' := by
  have hL : exP.length = 4 := rfl
  have hlit : Rd (w.alloc (.cells #[.int .i64 (-1), .int .i64 0, .int .i64 0, .int .i64 1] 3)) (some ⟨w.heap.size, 0, none⟩) 4 1 (ic exP) := lit_its exP w 3
  have hb0 := balloc0 w (.cells #[.int .i64 (-1), .int .i64 0, .int .i64 0, .int .i64 1] 3)
  have hT0 := hT.alloc (.cells #[.int .i64 (-1), .int .i64 0, .int .i64 0, .int .i64 1] 3)
  generalize hW0 : w.alloc (.cells #[.int .i64 (-1), .int .i64 0, .int .i64 0, .int .i64 1] 3) = W0 at *
  have h1 := fun (W : World) (h : Below W0.heap.size W0 W) => grove_order (some ⟨w.heap.size, 0, none⟩) 4 exP W (hlit.kept h) (by decide) (hT0.kept h)
  rw [ex_order, ex_tree] at h1
  have h2 := fun (W : World) (h : Below W0.heap.size W0 W) => grove_below (some ⟨w.heap.size, 0, none⟩) 4 exP 1 W (hlit.kept h) (by decide) (hT0.kept h)
  rw [ex_wrong] at h2
  have h3 := fun (W : World) (h : Below W0.heap.size W0 W) => grove_hang (some ⟨w.heap.size, 0, none⟩) 4 exP 1 3 W (hlit.kept h) (fun k => by cases k) (by decide)
  rw [ex_hang] at h3
  have h1 := hide h1
  have h2 := hide h2
  have h3 := hide h3
  have hb0 := hide hb0
  clear hlit hT hT0
  go_enter Tryd.func11, Tryd.ntmps11
  go_wp2_with fail
  refine (h1.out W0 (Below.refl _ _)).mono ?_
  rintro e w1 ⟨v1, rfl, hv1, hb1⟩
  have hv1 := hide hv1
  have k1 := hide hb1
  go_wp2_with fail
  refine (h2.out w1 hb1).mono ?_
  rintro e w2 ⟨⟨s, rfl, hs⟩, hb2⟩
  obtain rfl := ex_below hs
  have k2 := hide (bthen k1.out hb2)
  have hv2 := hide (hv1.out.kept hb2)
  clear hs
  go_wp2_with fail
  refine (h3.out w2 k2.out).mono ?_
  rintro e w3 ⟨v3, rfl, _, hb3⟩
  have k3 := hide (bthen k2.out hb3)
  have hv3 := hide (hv2.out.kept hb3)
  clear h1 h2 h3 hv1 hv2 k1 k2 hb1 hb2 hb3
  go_wp2_with fail
  have hs := same_its (intN [3, 1, 2, 0]) (w3.alloc (.cells #[.int .i64 3, .int .i64 1, .int .i64 2, .int .i64 0] 3)) v1 (.slice (some ⟨w3.heap.size, 0, none⟩) 4 4) (by decide) (hv3.out.kept (balloc0 _ _)) ⟨_, 4, rfl, (fun k => by cases k), Nat.le_refl _, (by unfold maxLen; omega), lit_its [3, 1, 2, 0] w3 3⟩
  refine hs.mono ?_
  rintro e w4 ⟨rfl, hb4⟩
  have hb4 := hide hb4
  clear hs
  go_wp2_with fail
  go_ret
  exact ⟨rfl, bthen (bthen (bthen hb0.out k3.out) (balloc0 _ _)) hb4.out⟩

set_option maxRecDepth 100000 in
set_option maxHeartbeats 1000000 in
theorem groveHangs_walk (A : Option Addr) (n c : Nat) (p : List Int) (i u : Int) (w : World) (hT : Tz w) (hl : p.length = n) (hnc : n ≤ c) (hc : c ≤ maxLen) (hr : Rd w A n 1 (fun i => .int .i64 (p.getD i 0))) (_hw : ∀ x ∈ p, (Lit.int .i64 x).wf = true)
    (_hi : -9223372036854775808 ≤ i ∧ i ≤ 9223372036854775807) (_hu : -9223372036854775808 ≤ u ∧ u ≤ 9223372036854775807) :
    Calls Tryd.prog 3 #[.slice A n c, .int .i64 i, .int .i64 u] w fun e w' => e = .returned (.bool true) ∧ Below w.heap.size w w' := by
  subst hl
  have hA : A = none → p.length = 0 := rd_none0 hr
  by_cases h100 : p.length ≤ 100
  · have h1 := hide (fun (W : World) (h : Below w.heap.size w W) => grove_hang A c p i u W (hr.of_below (Nat.le_refl _) h) hA (by omega))
    have h2 := hide (fun (W : World) (h : Below w.heap.size w W) => ref28_hang A c p i u W (hr.of_below (Nat.le_refl _) h) hA (by omega))
    have hlen : (hangF p i u).1.length ≤ 1000 := by
      unfold hangF
      repeat' split
      all_goals simp
      all_goals omega
    have hS := hide (fun (W : World) (a b : Value) (h : Its W a (hangF p i u).1) (k : Its W b (hangF p i u).1) => same_its (hangF p i u).1 W a b (by omega) h k)
    have hS2 := hide (fun (W : World) (b : Value) (h : Below w.heap.size w W) (k : Its W b p) => same_its p W (.slice A p.length c) b (by omega) ⟨A, c, rfl, hA, hnc, hc, hr.of_below (Nat.le_refl _) h⟩ k)
    have hal := hide (fun (W : World) (h : Below w.heap.size w W) => alive28 W (hT.of_below (Nat.le_refl _) h))
    have hone := hide (ic_one p)
    have hrange := hide (iv_range p)
    have hown := hide (fun (W : World) (v : Value) (h : W.ownsRow w.heap.size 3 1 v p.length (iv p)) => own_its (l := p) rfl h)
    generalize hangF p i u = G at *
    obtain ⟨g, q⟩ := G
    have hqq : (q == q) = true := by simp
    simp only [] at h1 h2 hS
    have hAH := hide hA
    clear hlen hA hT _hw _hi _hu
    obtain ⟨n, hn⟩ : ∃ n, Hid (p.length = n) := ⟨_, rfl⟩
    have hrH := hide hr
    clear hr
    rw [hn.out] at h100 hnc h1 h2 hS2 hrange hown hrH hAH ⊢
    go_enter Tryd.func3, Tryd.ntmps3
    go_wp2_with (at_builtin; refine wpList_app elInt rfl (.tmp 16) (.tmp 17) rfl w.heap.size _ 0 [] rfl (World.ownsRow_lit w #[] 0 (Nat.le_refl _) (by unfold maxLen; omega) rfl) A n c (ic p) rfl (hrH.out.alloc _) (fun i _ => hone.out i) (by omega) (by simp) hAH.out ?_; intro v1 w1 how1 hb1 hgr1 hat1; rw [Nat.mul_one, hrange.out, Nat.zero_add, List.nil_append] at how1; have k1 := hide ((balloc0 w _).trans hb1); have hv1 := hide (hown.out w1 _ how1); clear how1 hb1 hgr1 hat1)
    refine (h1.out w1 k1.out).mono ?_
    rintro e w2 ⟨v2, rfl, hv2, hb2⟩
    have k2 := hide (bthen k1.out hb2)
    have hv1 := hide (hv1.out.kept hb2)
    have hv2 := hide hv2
    clear hb2
    go_wp2_with fail
    refine (h2.out w2 k2.out).mono ?_
    rintro e w3 ⟨v3, rfl, hv3, hb3⟩
    have k3 := hide (bthen k2.out hb3)
    have hv1 := hide (hv1.out.kept hb3)
    have hv2 := hide (hv2.out.kept hb3)
    have hv3 := hide hv3
    clear hb3
    go_wp2_with fail
    refine (hS.out w3 v2 v3 hv2.out hv3.out).mono ?_
    rintro e w4 ⟨rfl, hb4⟩
    have k4 := hide (bthen k3.out hb4)
    have hv1 := hide (hv1.out.kept hb4)
    clear hb4
    go_wp2_with fail
    refine (hS2.out w4 v1 k4.out hv1.out).mono ?_
    rintro e w5 ⟨rfl, hb5⟩
    have k5 := hide (bthen k4.out hb5)
    clear hb5
    go_wp2_with fail
    refine (hal.out w5 k5.out).mono ?_
    rintro e w6 ⟨rfl, hb6⟩
    have k6 := hide (bthen k5.out hb6)
    go_wp2_with fail
    go_ret
    exact ⟨rfl, k6.out⟩
  · have c9 := hide (alive28 w hT)
    obtain ⟨n, hn⟩ : ∃ n, Hid (p.length = n) := ⟨_, rfl⟩
    rw [hn.out] at h100 hnc ⊢
    clear hr
    unfold maxLen at hc
    go_enter Tryd.func3, Tryd.ntmps3
    go_wp2_with fail
    refine c9.out.mono ?_
    rintro e w3 ⟨rfl, hb3⟩
    go_wp2_with fail
    go_ret
    exact ⟨rfl, hb3⟩
end Go.Proofs.YtcpakoobgcdekaaDoor

/- The law GroveTells, walked. By the prover of this repo. -/
import Derived.Test.YtcpakoobgcdekaaDoorGroveF
namespace Go.Proofs.YtcpakoobgcdekaaDoor
open Go.RowKit Go.Shelf

set_option maxRecDepth 100000 in
set_option maxHeartbeats 1000000 in
theorem groveTells_walk (A : Option Addr) (n c : Nat) (p : List Int) (w : World) (hT : Tz w) (hl : p.length = n) (hnc : n ≤ c) (hc : c ≤ maxLen) (hr : Rd w A n 1 (fun i => .int .i64 (p.getD i 0))) (_hw : ∀ x ∈ p, (Lit.int .i64 x).wf = true) :
    Calls Tryd.prog 4 #[.slice A n c] w fun e w' => e = .returned (.bool true) ∧ Below w.heap.size w w' := by
  subst hl
  by_cases h100 : p.length ≤ 100
  · have c1 := hide (fun (W : World) (h : Below w.heap.size w W) => grove_root A c p W (hr.of_below (Nat.le_refl _) h) (by omega))
    have c2 := hide (fun (W : World) (h : Below w.heap.size w W) => grove_order A c p W (hr.of_below (Nat.le_refl _) h) (by omega) (hT.of_below (Nat.le_refl _) h))
    have c3 := hide (fun (W : World) (h : Below w.heap.size w W) => grove_height A c p W (hr.of_below (Nat.le_refl _) h) (by omega))
    have c4 := hide (fun (W : World) (h : Below w.heap.size w W) => ref28_right A c p W (hr.of_below (Nat.le_refl _) h) (by omega))
    have c5 := hide (fun (W : World) (h : Below w.heap.size w W) => grove_right A c p W (hr.of_below (Nat.le_refl _) h) (by omega))
    have hal := hide (fun (W : World) (h : Below w.heap.size w W) => alive28 W (hT.of_below (Nat.le_refl _) h))
    unfold rootV treeE at c1
    unfold orderF treeE at c2
    unfold heightV treeE at c3
    cases hb : rightF p
    · rw [hb] at c1 c2 c3 c4 c5
      simp only [Bool.false_eq_true, if_false] at c1 c2 c3
      obtain ⟨n, hn⟩ : ∃ n, Hid (p.length = n) := ⟨_, rfl⟩
      rw [hn.out] at h100 hnc c1 c2 c3 c4 c5 ⊢
      clear hr hT
      go_enter Tryd.func4, Tryd.ntmps4
      go_wp2_with fail
      refine (c1.out w (Below.refl _ _)).mono ?_
      rintro e w1 ⟨rfl, hb1⟩
      have k1 := hide hb1
      clear hb1
      go_wp2_with fail
      refine (c2.out w1 k1.out).mono ?_
      rintro e w2 ⟨v2, rfl, ⟨A2, c2', rfl, _⟩, hb2⟩
      have k2 := hide (bthen k1.out hb2)
      clear hb2
      rw [show (intN []).length = 0 from rfl]
      go_wp2_with fail
      refine (c3.out w2 k2.out).mono ?_
      rintro e w3 ⟨rfl, hb3⟩
      have k3 := hide (bthen k2.out hb3)
      clear hb3
      go_wp2_with fail
      refine (c4.out w3 k3.out).mono ?_
      rintro e w4 ⟨rfl, hb4⟩
      have k4 := hide (bthen k3.out hb4)
      clear hb4
      go_wp2_with fail
      refine (c5.out w4 k4.out).mono ?_
      rintro e w5 ⟨rfl, hb5⟩
      have k5 := hide (bthen k4.out hb5)
      clear hb5
      go_wp2_with fail
      refine (hal.out w5 k5.out).mono ?_
      rintro e w6 ⟨rfl, hb6⟩
      have k6 := hide (bthen k5.out hb6)
      go_wp2_with fail
      go_ret
      exact ⟨rfl, k6.out⟩
    · rw [hb] at c1 c2 c3 c4 c5
      simp only [if_true] at c1 c2 c3
      obtain ⟨hWy, _, h48, hro⟩ := ways_of_right hb
      have hk := first_root hro
      have hS := hide (fun (W : World) (a b : Value) (h : Its W a (intN (walkF p 48 (rootK p)))) (k : Its W b (intN (walkF p 48 (rootK p)))) => same_its (intN (walkF p 48 (rootK p))) W a b (by rw [intN_length]; have := walk_length hWy h48 hk.1 (hgt_of_ways hWy hk.1).1; omega) h k)
      have c6 := hide (fun (W : World) (h : Below w.heap.size w W) => ref28_root A c p (rootK p) W (hr.of_below (Nat.le_refl _) h) (by omega) hk)
      have c7 := hide (fun (W : World) (h : Below w.heap.size w W) => ref28_order A c p W (hr.of_below (Nat.le_refl _) h) hb)
      unfold orderF at c7
      rw [hb] at c7
      simp only [if_true] at c7
      have c8 := hide (fun (W : World) (h : Below w.heap.size w W) => ref28_height A c p W (hr.of_below (Nat.le_refl _) h) (by omega))
      generalize intN (walkF p 48 (rootK p)) = Lw at *
      generalize heightG p p.length = hg at *
      generalize rootK p = rk at *
      have e1 : ((rk : Int) == (rk : Int)) = true := by simp
      have e2 : ((hg : Int) == (hg : Int)) = true := by simp
      obtain ⟨n, hn⟩ : ∃ n, Hid (p.length = n) := ⟨_, rfl⟩
      rw [hn.out] at h100 hnc c1 c2 c3 c4 c5 c6 c7 c8 ⊢
      clear hr hT hk hWy h48 hro
      go_enter Tryd.func4, Tryd.ntmps4
      go_wp2_with fail
      refine (c1.out w (Below.refl _ _)).mono ?_
      rintro e w1 ⟨rfl, hb1⟩
      have k1 := hide hb1
      clear hb1
      go_wp2_with fail
      refine (c2.out w1 k1.out).mono ?_
      rintro e w2 ⟨v2, rfl, hv2, hb2⟩
      have k2 := hide (bthen k1.out hb2)
      have hv2 := hide hv2
      clear hb2
      go_wp2_with fail
      refine (c3.out w2 k2.out).mono ?_
      rintro e w3 ⟨rfl, hb3⟩
      have k3 := hide (bthen k2.out hb3)
      have hv2 := hide (hv2.out.kept hb3)
      clear hb3
      go_wp2_with fail
      refine (c4.out w3 k3.out).mono ?_
      rintro e w4 ⟨rfl, hb4⟩
      have k4 := hide (bthen k3.out hb4)
      have hv2 := hide (hv2.out.kept hb4)
      clear hb4
      go_wp2_with fail
      refine (c5.out w4 k4.out).mono ?_
      rintro e w5 ⟨rfl, hb5⟩
      have k5 := hide (bthen k4.out hb5)
      have hv2 := hide (hv2.out.kept hb5)
      clear hb5
      go_wp2_with fail
      refine (c6.out w5 k5.out).mono ?_
      rintro e w6 ⟨rfl, hb6⟩
      have k6 := hide (bthen k5.out hb6)
      have hv2 := hide (hv2.out.kept hb6)
      clear hb6
      go_wp2_with fail
      refine (c7.out w6 k6.out).mono ?_
      rintro e w7 ⟨v7, rfl, hv7, hb7⟩
      have k7 := hide (bthen k6.out hb7)
      have hv2 := hide (hv2.out.kept hb7)
      have hv7 := hide hv7
      clear hb7
      go_wp2_with fail
      refine (hS.out w7 v2 v7 hv2.out hv7.out).mono ?_
      rintro e w8 ⟨rfl, hb8⟩
      have k8 := hide (bthen k7.out hb8)
      clear hb8
      go_wp2_with fail
      refine (c8.out w8 k8.out).mono ?_
      rintro e w9 ⟨rfl, hb9⟩
      have k9 := hide (bthen k8.out hb9)
      clear hb9
      go_wp2_with fail
      refine (hal.out w9 k9.out).mono ?_
      rintro e w10 ⟨rfl, hb10⟩
      have k10 := hide (bthen k9.out hb10)
      go_wp2_with fail
      go_ret
      exact ⟨rfl, k10.out⟩
  · have c9 := hide (alive28 w hT)
    obtain ⟨n, hn⟩ : ∃ n, Hid (p.length = n) := ⟨_, rfl⟩
    rw [hn.out] at h100 hnc ⊢
    clear hr
    unfold maxLen at hc
    go_enter Tryd.func4, Tryd.ntmps4
    go_wp2_with fail
    refine c9.out.mono ?_
    rintro e w3 ⟨rfl, hb3⟩
    go_wp2_with fail
    go_ret
    exact ⟨rfl, hb3⟩
end Go.Proofs.YtcpakoobgcdekaaDoor

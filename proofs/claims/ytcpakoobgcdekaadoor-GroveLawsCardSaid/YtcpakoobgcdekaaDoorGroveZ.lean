/- The walks of layer 28, on: the reference's Hang; the chapter's example. By the prover of this repo. -/
import Derived.Test.YtcpakoobgcdekaaDoorGroveY
import Derived.Test.YtcpakoobgcdekaaDoorSame
namespace Go.Proofs.YtcpakoobgcdekaaDoor
open Go.RowKit Go.Shelf

set_option maxRecDepth 100000 in
set_option maxHeartbeats 1000000 in
theorem ref28_hang (A : Option Addr) (c : Nat) (p : List Int) (i u : Int) (w : World) (hr : Rd w A p.length 1 (ic p)) (hA : A = none → p.length = 0) (hn : p.length ≤ 1000) :
    Calls Tryd.prog 13 #[.slice A p.length c, .int .i64 i, .int .i64 u] w fun e w' => ∃ v, e = .returned (.tuple #[v, .int .i64 (hangF p i u).2]) ∧ Its w' v (hangF p i u).1 ∧ Below w.heap.size w w' := by
  have h1 := hide (ref28_right A c p w hr hn)
  unfold hangF wrongF
  by_cases hb : rightF p = true
  · simp only [if_pos hb]
    rw [hb] at h1
    have hfin : ∀ (x : List Int × Int), (if (if i < 0 ∨ (p.length : Int) ≤ i then (16 : Int) else 0) = 0 then (if (if u < 0 ∨ (p.length : Int) ≤ u then (16 : Int) else 0) = 0 then x else ([], if u < 0 ∨ (p.length : Int) ≤ u then (16 : Int) else 0)) else ([], if i < 0 ∨ (p.length : Int) ≤ i then (16 : Int) else 0)) = if (i < 0 ∨ (p.length : Int) ≤ i) ∨ (u < 0 ∨ (p.length : Int) ≤ u) then ([], 16) else x := fun x => by
      by_cases k1 : i < 0 ∨ (p.length : Int) ≤ i
      · simp [k1]
      · by_cases k2 : u < 0 ∨ (p.length : Int) ≤ u
        · simp [k1, k2]
        · simp [k1, k2]
    rw [hfin]
    clear hfin
    by_cases hbad : (i < 0 ∨ (p.length : Int) ≤ i) ∨ (u < 0 ∨ (p.length : Int) ≤ u)
    · rw [if_pos hbad]
      obtain ⟨n, hnn⟩ : ∃ n, Hid (p.length = n) := ⟨_, rfl⟩
      rw [hnn.out] at hn h1 hbad ⊢
      clear hr hA
      rcases (show i < 0 ∨ (0 ≤ i ∧ (n : Int) ≤ i) ∨ ((0 ≤ i ∧ i < n) ∧ u < 0) ∨ ((0 ≤ i ∧ i < n) ∧ (0 ≤ u ∧ (n : Int) ≤ u)) by omega) with k1 | ⟨k1, k2⟩ | ⟨⟨k1, k2⟩, k3⟩ | ⟨⟨k1, k2⟩, k3, k4⟩
      all_goals
        clear hbad
        go_enter Tryd.func13, Tryd.ntmps13
        go_wp2_with (go_at_call 18; refine h1.out.mono ?_; rintro e w1 ⟨rfl, hb1⟩; have hb1 := hide hb1)
        go_ret2
        exact ⟨_, rfl, Its.nil _, hb1.out⟩
    · rw [if_neg hbad]
      have hi0 : 0 ≤ i := by omega
      have hu0 : 0 ≤ u := by omega
      obtain ⟨i, rfl⟩ := Int.eq_ofNat_of_zero_le hi0
      have hi : i < p.length := by omega
      have hu9 : u < p.length := by omega
      rw [Int.toNat_natCast]
      have hput := hide (fun (w : World) (base : Nat) (v : Value) => own_put (w := w) (base := base) (v := v) hi)
      have hsl : (p.set i u).length = p.length := List.length_set ..
      have h5 := fun (A : Option Addr) (c : Nat) (W : World) (h : Rd W A (p.set i u).length 1 (ic (p.set i u))) => ref28_right A c (p.set i u) W h (by rw [hsl]; exact hn)
      rw [hsl] at h5
      have h5 := hide h5
      have hits : ∀ (A : Option Addr) (c : Nat) (W : World), p.length ≤ c → c ≤ maxLen → (A = none → (p.set i u).length = 0) → Rd W A (p.set i u).length 1 (ic (p.set i u)) → Its W (.slice A p.length c) (p.set i u) := fun A c W h1 h2 h3 h => ⟨A, c, by rw [hsl], h3, by rw [hsl]; exact h1, h2, h⟩
      rw [hsl] at hits
      have hits := hide hits
      have hone := hide (ic_one p)
      have hrange := hide (iv_range p)
      generalize hq : p.set i u = q at *
      obtain ⟨n, hnn⟩ : ∃ n, Hid (p.length = n) := ⟨_, rfl⟩
      rw [hnn.out] at hi hn h1 h5 hput hits hr hA hu9 hrange ⊢
      have hqH := hide hq
      obtain ⟨ad, rfl⟩ : ∃ ad, A = some ad := by
        cases A with
        | none => exact absurd (hA rfl) (by omega)
        | some a => exact ⟨a, rfl⟩
      have hrH := hide hr
      clear hr hA hb hq hsl hbad hi0
      cases hR : rightF q
      · rw [hR] at h5
        simp only [Bool.false_eq_true, if_false]
        go_enter Tryd.func13, Tryd.ntmps13
        go_wp2_with (first
          | (go_at_call 18; refine h1.out.mono ?_; rintro e w1 ⟨rfl, hb1⟩; have hr1 := hide (hrH.out.of_below (Nat.le_refl _) hb1); have hb1 := hide hb1; clear h1)
          | (at_builtin; refine wpList_app elInt rfl (.tmp 30) (.tmp 31) rfl w1.heap.size _ 0 [] rfl (World.ownsRow_nil _ _ _ _) ad n c (ic p) rfl hr1.out (fun i _ => hone.out i) (by omega) (Nat.le_refl _) (fun k => by cases k) ?_; intro v3 w3 how hb3 hgr3 hat3; rw [Nat.mul_one, hrange.out, Nat.zero_add, List.nil_append] at how; obtain ⟨g, cap, rfl, hg1, hg2, hg3, hg4, hg5, hg6, hg7⟩ := hput.out w3 _ _ how; have hg8 := hg7 (u : Int); rw [hqH.out] at hg8; have h8 := hide (h5.out _ cap _ hg8); have hg8 := hide hg8; clear hg7; have hb3 := hide hb3; clear how hgr3 hat3)
          | (go_at_call 18; refine h8.out.mono ?_; rintro e w4 ⟨rfl, hb4⟩; have hb4 := hide hb4))
        go_ret2
        refine ⟨_, rfl, Its.nil _, ?_⟩
        exact ((bthen hb1.out hb3.out).trans ((Below.refl _ _).setCell (by have := hb1.out.size; show w.heap.size ≤ g; omega) _)).trans (hb4.out.mono (by have := hb1.out.size; have := hb3.out.size; simp; omega))
      · rw [hR] at h5
        simp only [if_true]
        go_enter Tryd.func13, Tryd.ntmps13
        go_wp2_with (first
          | (go_at_call 18; refine h1.out.mono ?_; rintro e w1 ⟨rfl, hb1⟩; have hr1 := hide (hrH.out.of_below (Nat.le_refl _) hb1); have hb1 := hide hb1; clear h1)
          | (at_builtin; refine wpList_app elInt rfl (.tmp 30) (.tmp 31) rfl w1.heap.size _ 0 [] rfl (World.ownsRow_nil _ _ _ _) ad n c (ic p) rfl hr1.out (fun i _ => hone.out i) (by omega) (Nat.le_refl _) (fun k => by cases k) ?_; intro v3 w3 how hb3 hgr3 hat3; rw [Nat.mul_one, hrange.out, Nat.zero_add, List.nil_append] at how; obtain ⟨g, cap, rfl, hg1, hg2, hg3, hg4, hg5, hg6, hg7⟩ := hput.out w3 _ _ how; have hg8 := hg7 (u : Int); rw [hqH.out] at hg8; have h8 := hide (h5.out _ cap _ hg8); have hg8 := hide hg8; clear hg7; have hb3 := hide hb3; clear how hgr3 hat3)
          | (go_at_call 18; refine h8.out.mono ?_; rintro e w4 ⟨rfl, hb4⟩; have hb4 := hide hb4))
        go_ret2
        refine ⟨_, rfl, (hits.out _ cap _ hg5 hg6 (fun k => by cases k) hg8.out).kept hb4.out, ?_⟩
        exact ((bthen hb1.out hb3.out).trans ((Below.refl _ _).setCell (by have := hb1.out.size; show w.heap.size ≤ g; omega) _)).trans (hb4.out.mono (by have := hb1.out.size; have := hb3.out.size; simp; omega))
  · have hb' : rightF p = false := by simpa using hb
    simp only [hb', Bool.false_eq_true, if_false]
    rw [hb'] at h1
    have e : (if (15 : Int) = 0 then (if (15 : Int) = 0 then (if rightF (p.set i.toNat u) = true then (p.set i.toNat u, (0 : Int)) else ([], 15)) else ([], 15)) else ([], 15)) = (([], 15) : List Int × Int) := by simp
    rw [e]
    clear hr hA hb hb' e
    go_enter Tryd.func13, Tryd.ntmps13
    go_wp2_with (go_at_call 18; refine h1.out.mono ?_; rintro e w1 ⟨rfl, hb1⟩; have hb1 := hide hb1)
    go_ret2
    exact ⟨_, rfl, Its.nil _, hb1.out⟩
end Go.Proofs.YtcpakoobgcdekaaDoor

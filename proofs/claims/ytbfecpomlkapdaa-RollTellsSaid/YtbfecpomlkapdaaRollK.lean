/- The walks of layer 6, on: the program's list in the order of last values. By the prover of this repo. -/
import Derived.Test.YtbfecpomlkapdaaRollU
import Derived.Test.YtbfecpomlkapdaaRollTP
import Derived.Test.YtbfecpomlkapdaaRollV
import Derived.Laws.EntriesVeiled
namespace Go.Proofs.Ytbfecpomlkapdaa
open Go.RowKit
open TwigM RollM

set_option maxHeartbeats 4000000 in
theorem roll_ahead (L : Int) (g : Nat) (x y : Nd) (w : World) (hB : Blk w g 3 #[.int .i64 L]) : Calls Try.prog 61 #[nv x, nv y, .pointer (some ⟨g, 0, none⟩)] w fun e w' => e = .returned (.bool (ltP L x y)) ∧ Below w.heap.size w w' := by
  obtain ⟨x1, x2⟩ := x
  obtain ⟨y1, y2⟩ := y
  have hg := hB.lt
  have hc := hB.cell 0
  simp only [List.getElem?_toArray, List.getElem?_cons_zero] at hc
  have h1 := fun W => ends_c L x1 W
  have h2 := fun W => ends_c L y1 W
  unfold ltP endF
  simp only
  generalize endsF L x1 = p at *
  generalize endsF L y1 = q at *
  obtain ⟨p0, p1, p2⟩ := p
  obtain ⟨q0, q1, q2⟩ := q
  simp only
  replace h1 := hide h1
  replace h2 := hide h2
  by_cases c1 : p1 = q1
  · subst c1
    have hd : Hid (decide (p1 < p1 ∨ p1 = p1 ∧ y1 < x1) = decide (y1 < x1)) := by show _ = _; simp
    go_enter Try.func61, Try.ntmps61
    go_wp2_with fail
    refine (h1.out _).mono ?_
    rintro e _ ⟨rfl, n1, rfl⟩
    go_wp2_with fail
    refine (h2.out _).mono ?_
    rintro e _ ⟨rfl, n2, rfl⟩
    go_wp2_with fail
    go_ret
    exact ⟨by rw [hd.out]; rfl, below_drewN (balloc (balloc0 _ _) _) _⟩
  · have c1f : (p1 != q1) = true := by simpa using c1
    have hd : Hid (decide (p1 < q1 ∨ p1 = q1 ∧ y1 < x1) = decide (p1 < q1)) := by show _ = _; simp [c1]
    clear c1
    go_enter Try.func61, Try.ntmps61
    go_wp2_with fail
    refine (h1.out _).mono ?_
    rintro e _ ⟨rfl, n1, rfl⟩
    go_wp2_with fail
    refine (h2.out _).mono ?_
    rintro e _ ⟨rfl, n2, rfl⟩
    go_wp2_with fail
    go_ret
    exact ⟨by rw [hd.out]; rfl, below_drewN (balloc (balloc0 _ _) _) _⟩

theorem roll_post (L : Int) (A : Option Addr) (c : Nat) (l : List Nd) (w : World) (hr : Rd w A l.length 2 (ndc l)) (hA : A = none → l.length = 0) (hc : l.length ≤ c) (hm : c ≤ maxLen) (hl : l.length ≤ 1000000) (hwf : NdWf l) :
    Calls Try.prog 40 #[.int .i64 L, .slice A l.length c] w fun e w' => ∃ v, e = .returned (.tuple #[v, .bool (postF L l).2]) ∧ Nds w' v (postF L l).1 ∧ Below w.heap.size w w' := by
  have hB0 := Blk.made w 3 #[.int .i64 L]
  have hR := fun W (hW : Below w.heap.size w W) => roll_right L A c l W (hr.kept hW) hl hwf
  have hS := fun W (hW : Below w.heap.size w W) (hb : Blk W w.heap.size 3 #[.int .i64 L]) => sorted_P L w.heap.size l.length l.length (Nat.le_refl _) A c l W rfl hl (hr.kept hW) hA hc hm (fun x y W' hW' => roll_ahead L _ x y W' (hb.below hW' hb.lt))
  unfold postF
  cases hrb : rollB L l
  · rw [hrb] at hR
    replace hR := hide hR
    clear hrb hr hS hA hc hm
    generalize l.length = n at *
    go_enter Try.func40, Try.ntmps40
    go_wp2_with fail
    refine (hR.out _ (balloc0 _ _)).mono ?_
    rintro e w1 ⟨rfl, hb1⟩
    go_wp2_with fail
    go_ret2
    exact ⟨_, rfl, Nds.nil _, bthen (balloc0 _ _) hb1⟩
  · rw [hrb] at hR
    rw [if_pos rfl]
    replace hR := hide hR
    replace hS := hide hS
    replace hB0 := hide hB0
    clear hrb hr hA hc hm
    generalize hn : l.length = n at *
    replace hn := hide hn
    go_enter Try.func40, Try.ntmps40
    go_wp2_with fail
    refine (hR.out _ (balloc0 _ _)).mono ?_
    rintro e w1 ⟨rfl, hb1⟩
    go_wp2_with fail
    refine (hS.out _ (bthen (balloc0 _ _) hb1) (hB0.out.below hb1 (by simp))).mono ?_
    rintro e w2 ⟨v, rfl, hv, hb2⟩
    go_wp2_with fail
    go_ret2
    exact ⟨v, rfl, hv, bthen (bthen (balloc0 _ _) hb1) hb2⟩
end Go.Proofs.Ytbfecpomlkapdaa

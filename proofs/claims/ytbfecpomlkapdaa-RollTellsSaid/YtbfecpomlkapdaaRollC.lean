/- Layer 6: the laws' walks, on. By the prover of this repo. -/
import Derived.Test.YtbfecpomlkapdaaRollB
namespace Go.Proofs.Ytbfecpomlkapdaa
open Go.RowKit
open TwigM RollM

set_option maxRecDepth 100000 in
set_option maxHeartbeats 4000000 in
theorem rollTells_walk (L : Int) (A : Option Addr) (c : Nat) (l : List Nd) (id : Int) (w : World) (_hL : -9223372036854775808 ≤ L ∧ L ≤ 9223372036854775807) (hr : Rd w A l.length 2 (ndc l)) (hA : A = none → l.length = 0) (hc : l.length ≤ c) (hm : c ≤ maxLen) (hwf : NdWf l) (_hid : -9223372036854775808 ≤ id ∧ id ≤ 9223372036854775807) :
    Calls Try.prog 11 #[.int .i64 L, .slice A l.length c, .int .i64 id] w fun e w' => e = .returned (.bool true) ∧ Below w.heap.size w w' := by
  by_cases hl : 150 < l.length
  · have hl2 : (150 : Int) < (l.length : Int) := by omega
    clear hr hA hc hm hl
    generalize l.length = n at *
    go_enter Try.func11, Try.ntmps11
    go_wp2_with fail
    refine (alive06 _).mono ?_
    rintro e w1 ⟨rfl, hb1⟩
    go_wp2_with fail
    go_ret
    exact ⟨rfl, hb1⟩
  · have hl2 : ¬ (150 : Int) < (l.length : Int) := by omega
    have hl3 : l.length ≤ 1000000 := by omega
    have h1 := fun W (hW : Below w.heap.size w W) => roll_total A c l W (hr.kept hW) hl3 hwf
    have h2 := fun W (hW : Below w.heap.size w W) => ref06_total A c l W (hr.kept hW) hl3 hwf
    have h3 := fun W (hW : Below w.heap.size w W) => roll_right L A c l W (hr.kept hW) hl3 hwf
    have h4 := fun W (hW : Below w.heap.size w W) => ref06_right L A c l W (hr.kept hW) hl3 hwf
    have h5 := fun W (hW : Below w.heap.size w W) => roll_find id A c l W (hr.kept hW) hl3
    have h6 := fun W (hW : Below w.heap.size w W) => ref06_find id A c l W (hr.kept hW) hl3 hwf
    generalize totF l = p at *
    generalize rollB L l = q at *
    generalize findF id l = r at *
    obtain ⟨x, y⟩ := p
    replace h1 := hide h1
    replace h2 := hide h2
    replace h3 := hide h3
    replace h4 := hide h4
    replace h5 := hide h5
    replace h6 := hide h6
    clear hr hA hc hm hl hl3
    generalize l.length = n at *
    go_enter Try.func11, Try.ntmps11
    go_wp2_with fail
    refine (h1.out _ (Below.refl _ _)).mono ?_
    rintro e w1 ⟨rfl, hb1⟩
    go_wp2_with fail
    refine (h2.out _ hb1).mono ?_
    rintro e w2 ⟨rfl, hb2⟩
    have hc2 := bthen hb1 hb2
    go_wp2_with fail
    refine (h3.out _ hc2).mono ?_
    rintro e w3 ⟨rfl, hb3⟩
    have hc3 := bthen hc2 hb3
    go_wp2_with fail
    refine (h4.out _ hc3).mono ?_
    rintro e w4 ⟨rfl, hb4⟩
    have hc4 := bthen hc3 hb4
    go_wp2_with fail
    refine (h5.out _ hc4).mono ?_
    rintro e w5 ⟨rfl, hb5⟩
    have hc5 := bthen hc4 hb5
    go_wp2_with fail
    refine (h6.out _ hc5).mono ?_
    rintro e w6 ⟨rfl, hb6⟩
    have hc6 := bthen hc5 hb6
    go_wp2_with fail
    refine (alive06 _).mono ?_
    rintro e w7 ⟨rfl, hb7⟩
    go_wp2_with fail
    go_ret
    exact ⟨rfl, bthen hc6 hb7⟩

set_option maxRecDepth 100000 in
set_option maxHeartbeats 4000000 in
theorem rollSorts_walk (A : Option Addr) (c : Nat) (a : List Nd) (B : Option Addr) (d : Nat) (b : List Nd) (w : World) (hr : Rd w A a.length 2 (ndc a)) (hA : A = none → a.length = 0) (hc : a.length ≤ c) (hm : c ≤ maxLen) (_hwf : NdWf a)
    (hs : Rd w B b.length 2 (ndc b)) (_hB : B = none → b.length = 0) (_hd : b.length ≤ d) (_hmd : d ≤ maxLen) (_hwg : NdWf b) :
    Calls Try.prog 10 #[.slice A a.length c, .slice B b.length d] w fun e w' => e = .returned (.bool true) ∧ Below w.heap.size w w' := by
  by_cases hl : 150 < a.length
  · have hl2 : (150 : Int) < (a.length : Int) := by omega
    clear hr hA hc hm hl hs _hB _hd
    generalize a.length = n at *
    generalize b.length = m at *
    go_enter Try.func10, Try.ntmps10
    go_wp2_with fail
    refine (alive06 _).mono ?_
    rintro e w1 ⟨rfl, hb1⟩
    go_wp2_with fail
    go_ret
    exact ⟨rfl, hb1⟩
  by_cases hk : 150 < b.length
  · have hl2 : ¬ (150 : Int) < (a.length : Int) := by omega
    have hk2 : (150 : Int) < (b.length : Int) := by omega
    clear hr hA hc hm hl hs _hB _hd hk
    generalize a.length = n at *
    generalize b.length = m at *
    go_enter Try.func10, Try.ntmps10
    go_wp2_with fail
    refine (alive06 _).mono ?_
    rintro e w1 ⟨rfl, hb1⟩
    go_wp2_with fail
    go_ret
    exact ⟨rfl, hb1⟩
  · have hl2 : ¬ (150 : Int) < (a.length : Int) := by omega
    have hk2 : ¬ (150 : Int) < (b.length : Int) := by omega
    have h1 := roll_sorted A c a w hr hA hc hm (by omega)
    have h2 := fun W (hW : Below w.heap.size w W) => ref06_sorted A c a W (hr.kept hW) (by omega)
    have hlen1 : (isort ltS a).length ≤ 1000000 := by rw [isort_length]; omega
    have h4 := fun W (hW : Below w.heap.size w W) => roll_same A B c d a b W (hr.kept hW) (hs.kept hW) (by omega) (by omega)
    have h5 := fun W (hW : Below w.heap.size w W) => ref06_same A B c d a b W (hr.kept hW) (hs.kept hW) (by omega) (by omega)
    have h6 := fun W (hW : Below w.heap.size w W) => roll_same A A c c a a W (hr.kept hW) (hr.kept hW) (by omega) (by omega)
    rw [decide_eq_true (rfl : a = a)] at h6
    generalize isort ltS a = S at *
    generalize decide (a = b) = t at *
    have h3 := fun W u v => same_true S W u v hlen1
    replace h1 := hide h1
    replace h2 := hide h2
    replace h3 := hide h3
    replace h4 := hide h4
    replace h5 := hide h5
    replace h6 := hide h6
    clear hr hA hc hm hl hs _hB _hd hk hlen1
    generalize a.length = n at *
    generalize b.length = m at *
    go_enter Try.func10, Try.ntmps10
    go_wp2_with fail
    refine h1.out.mono ?_
    rintro e w1 ⟨v1, rfl, hv1, hb1⟩
    go_wp2_with fail
    refine (h2.out _ hb1).mono ?_
    rintro e w2 ⟨v2, rfl, hv2, hb2⟩
    have hc2 := bthen hb1 hb2
    go_wp2_with fail
    refine (h3.out _ _ _ (hv1.kept hb2) hv2.nds).mono ?_
    rintro e w3 ⟨rfl, hb3⟩
    have hc3 := bthen hc2 hb3
    go_wp2_with fail
    refine (h4.out _ hc3).mono ?_
    rintro e w4 ⟨rfl, hb4⟩
    have hc4 := bthen hc3 hb4
    go_wp2_with fail
    refine (h5.out _ hc4).mono ?_
    rintro e w5 ⟨rfl, hb5⟩
    have hc5 := bthen hc4 hb5
    go_wp2_with fail
    refine (h6.out _ hc5).mono ?_
    rintro e w6 ⟨rfl, hb6⟩
    have hc6 := bthen hc5 hb6
    go_wp2_with fail
    refine (alive06 _).mono ?_
    rintro e w7 ⟨rfl, hb7⟩
    go_wp2_with fail
    go_ret
    exact ⟨rfl, bthen hc6 hb7⟩
end Go.Proofs.Ytbfecpomlkapdaa

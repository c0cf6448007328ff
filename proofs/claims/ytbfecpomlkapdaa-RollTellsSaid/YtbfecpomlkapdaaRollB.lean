/- Layer 6: the laws' walks. By the prover of this repo. -/
import Derived.Test.YtbfecpomlkapdaaRollA
namespace Go.Proofs.Ytbfecpomlkapdaa
open Go.RowKit
open TwigM RollM

theorem same_true (S : List Nd) (W : World) (u v : Value) (hlen : S.length ≤ 1000000) (hu : Nds W u S) (hv : Nds W v S) : Calls Try.prog 42 #[u, v] W fun e w' => e = .returned (.bool true) ∧ Below W.heap.size W w' := by
  obtain ⟨A1, c1, rfl, _, _, _, hr1⟩ := hu
  obtain ⟨A2, c2, rfl, _, _, _, hr2⟩ := hv
  have := ref06_same A1 A2 c1 c2 S S W hr1 hr2 hlen hlen
  rwa [decide_eq_true rfl] at this
theorem bump_length (n : Int) : ∀ l : List Nd, (bump n l).length = l.length
  | [] => rfl
  | [_] => rfl
  | _ :: b :: l => by have := bump_length n (b :: l); simpa [bump] using this
theorem foldGo_len : ∀ (r out : List Nd), (foldGo out r).1.length ≤ out.length + r.length
  | [], out => by simp [foldGo]
  | p :: r, out => by
    rw [foldGo]
    split
    · simp
    · split
      · have := foldGo_len r out; simp; omega
      · split
        · have := foldGo_len r (bump p.2 out); rw [bump_length] at this; simp; omega
        · have := foldGo_len r (out ++ [p]); simp at this ⊢; omega
theorem foldF_len (l : List Nd) (h : l.length ≤ 1000000) : (foldF l).1.length ≤ 1000000 := by
  unfold foldF
  split
  · have := foldGo_len (isort ltS l) []
    rw [isort_length] at this
    simp at this
    omega
  · simp

set_option maxRecDepth 100000 in
set_option maxHeartbeats 4000000 in
theorem rollPosts_walk (L : Int) (A : Option Addr) (c : Nat) (l : List Nd) (w : World) (_hL : -9223372036854775808 ≤ L ∧ L ≤ 9223372036854775807) (hr : Rd w A l.length 2 (ndc l)) (hA : A = none → l.length = 0) (hc : l.length ≤ c) (hm : c ≤ maxLen) (hwf : NdWf l) :
    Calls Try.prog 9 #[.int .i64 L, .slice A l.length c] w fun e w' => e = .returned (.bool true) ∧ Below w.heap.size w w' := by
  by_cases hl : 150 < l.length
  · have hl2 : (150 : Int) < (l.length : Int) := by omega
    clear hr hA hc hm hl
    generalize l.length = n at *
    go_enter Try.func9, Try.ntmps9
    go_wp2_with fail
    refine (alive06 _).mono ?_
    rintro e w1 ⟨rfl, hb1⟩
    go_wp2_with fail
    go_ret
    exact ⟨rfl, hb1⟩
  · have hl2 : ¬ (150 : Int) < (l.length : Int) := by omega
    have h1 := roll_post L A c l w hr hA hc hm (by omega) hwf
    have h2 := fun W (hW : Below w.heap.size w W) => ref06_post L A c l W (hr.kept hW) (by omega) hwf
    have hlen : (postF L l).1.length ≤ 1000000 := by
      unfold postF
      split
      · rw [isort_length]; omega
      · simp
    generalize postF L l = p at *
    obtain ⟨S, x⟩ := p
    have h3 : ∀ (W : World) (u v : Value), Nds W u S → Nds W v S → Calls Try.prog 42 #[u, v] W fun e w' => e = .returned (.bool true) ∧ Below W.heap.size W w' := by
      intro W u v hu hv
      obtain ⟨A1, c1, rfl, _, _, _, hr1⟩ := hu
      obtain ⟨A2, c2, rfl, _, _, _, hr2⟩ := hv
      have := ref06_same A1 A2 c1 c2 S S W hr1 hr2 hlen hlen
      rwa [decide_eq_true rfl] at this
    replace h1 := hide h1
    replace h2 := hide h2
    replace h3 := hide h3
    clear hr hA hc hm hl
    generalize l.length = n at *
    go_enter Try.func9, Try.ntmps9
    go_wp2_with fail
    refine h1.out.mono ?_
    rintro e w1 ⟨v1, rfl, hv1, hb1⟩
    go_wp2_with fail
    refine (h2.out _ hb1).mono ?_
    rintro e w2 ⟨v2, rfl, hv2, hb2⟩
    go_wp2_with fail
    refine (h3.out _ _ _ (hv1.kept hb2) hv2.nds).mono ?_
    rintro e w3 ⟨rfl, hb3⟩
    go_wp2_with fail
    refine (alive06 _).mono ?_
    rintro e w4 ⟨rfl, hb4⟩
    go_wp2_with fail
    go_ret
    exact ⟨rfl, bthen (bthen (bthen hb1 hb2) hb3) hb4⟩

set_option maxRecDepth 100000 in
set_option maxHeartbeats 4000000 in
theorem rollFolds_walk (A : Option Addr) (c : Nat) (a : List Nd) (B : Option Addr) (d : Nat) (b : List Nd) (w : World) (hr : Rd w A a.length 2 (ndc a)) (hA : A = none → a.length = 0) (hc : a.length ≤ c) (hm : c ≤ maxLen) (hwf : NdWf a)
    (hs : Rd w B b.length 2 (ndc b)) (hB : B = none → b.length = 0) (_hd : b.length ≤ d) (_hmd : d ≤ maxLen) (hwg : NdWf b) :
    Calls Try.prog 12 #[.slice A a.length c, .slice B b.length d] w fun e w' => e = .returned (.bool true) ∧ Below w.heap.size w w' := by
  by_cases hl : 100 < a.length
  · have hl2 : (100 : Int) < (a.length : Int) := by omega
    clear hr hA hc hm hl hs hB _hd
    generalize a.length = n at *
    generalize b.length = m at *
    go_enter Try.func12, Try.ntmps12
    go_wp2_with fail
    refine (alive06 _).mono ?_
    rintro e w1 ⟨rfl, hb1⟩
    go_wp2_with fail
    go_ret
    exact ⟨rfl, hb1⟩
  by_cases hk : 100 < b.length
  · have hl2 : ¬ (100 : Int) < (a.length : Int) := by omega
    have hk2 : (100 : Int) < (b.length : Int) := by omega
    clear hr hA hc hm hl hs hB _hd hk
    generalize a.length = n at *
    generalize b.length = m at *
    go_enter Try.func12, Try.ntmps12
    go_wp2_with fail
    refine (alive06 _).mono ?_
    rintro e w1 ⟨rfl, hb1⟩
    go_wp2_with fail
    go_ret
    exact ⟨rfl, hb1⟩
  · have hl2 : ¬ (100 : Int) < (a.length : Int) := by omega
    have hk2 : ¬ (100 : Int) < (b.length : Int) := by omega
    have h1 := roll_fold A c a w hr hA hc hm (by omega) hwf
    have h2 := fun W (hW : Below w.heap.size w W) => ref06_fold A c a W (hr.kept hW) hA hc hm (by omega) hwf
    have h3 := fun W (hW : Below w.heap.size w W) => roll_join A B c d a b W (hr.kept hW) (hs.kept hW) hA hB (by omega) (nd_append hwf hwg)
    have h4 := fun W (hW : Below w.heap.size w W) => ref06_join A B c d a b W (hr.kept hW) (hs.kept hW) hA hB (by omega) (nd_append hwf hwg)
    have hlen1 := foldF_len a (by omega)
    have hlen2 : (joinF a b).1.length ≤ 1000000 := foldF_len (a ++ b) (by rw [List.length_append]; omega)
    generalize foldF a = p at *
    generalize joinF a b = q at *
    obtain ⟨S, x⟩ := p
    obtain ⟨T, y⟩ := q
    have h5 := fun W u v => same_true S W u v hlen1
    have h6 := fun W u v => same_true T W u v hlen2
    replace h1 := hide h1
    replace h2 := hide h2
    replace h3 := hide h3
    replace h4 := hide h4
    replace h5 := hide h5
    replace h6 := hide h6
    clear hr hA hc hm hl hs hB _hd hk hlen1 hlen2
    generalize a.length = n at *
    generalize b.length = m at *
    go_enter Try.func12, Try.ntmps12
    go_wp2_with fail
    refine h1.out.mono ?_
    rintro e w1 ⟨v1, rfl, hv1, hb1⟩
    go_wp2_with fail
    refine (h2.out _ hb1).mono ?_
    rintro e w2 ⟨v2, rfl, hv2, hb2⟩
    have hc2 := bthen hb1 hb2
    go_wp2_with fail
    refine (h3.out _ hc2).mono ?_
    rintro e w3 ⟨v3, rfl, hv3, hb3⟩
    have hc3 := bthen hc2 hb3
    go_wp2_with fail
    refine (h4.out _ hc3).mono ?_
    rintro e w4 ⟨v4, rfl, hv4, hb4⟩
    have hc4 := bthen hc3 hb4
    have hb34 := bthen hb3 hb4
    go_wp2_with fail
    refine (h5.out _ _ _ (hv1.kept (bthen hb2 hb34)) (hv2.kept hb34)).mono ?_
    rintro e w5 ⟨rfl, hb5⟩
    go_wp2_with fail
    refine (h6.out _ _ _ (hv3.kept (bthen hb4 hb5)) (hv4.kept hb5)).mono ?_
    rintro e w6 ⟨rfl, hb6⟩
    go_wp2_with fail
    refine (alive06 _).mono ?_
    rintro e w7 ⟨rfl, hb7⟩
    go_wp2_with fail
    go_ret
    exact ⟨rfl, bthen (bthen (bthen hc4 hb5) hb6) hb7⟩
end Go.Proofs.Ytbfecpomlkapdaa

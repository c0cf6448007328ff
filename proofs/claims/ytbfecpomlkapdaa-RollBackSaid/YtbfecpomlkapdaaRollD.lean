/- Layer 6: the walk of the law RollBack. By the prover of this repo. -/
import Derived.Test.YtbfecpomlkapdaaRollB
import Derived.Test.YtbfecpomlkapdaaRollL
namespace Go.Proofs.Ytbfecpomlkapdaa
open Go.RowKit
open TwigM RollM

theorem wf_bd {l S : List Nd} (h : Bd l S) (hl : NdWf l) : NdWf S := fun p hp => by
  obtain ⟨⟨q, hq, e⟩, h1, h2⟩ := h p hp
  have := hl q hq
  rw [← e]
  omega
/-- What of a call hands back a list of nodes with a mark. -/
def Gives (f : FuncId) (args : Array Value) (W : World) (S : List Nd) (b : Bool) : Prop :=
  Calls Try.prog f args W fun e w' => ∃ v, e = .returned (.tuple #[v, .bool b]) ∧ Nds w' v S ∧ Below W.heap.size W w'
theorem Gives.out {f : FuncId} {args : Array Value} {W : World} {S : List Nd} {b : Bool} (h : Gives f args W S b) : Calls Try.prog f args W fun e w' => ∃ v, e = .returned (.tuple #[v, .bool b]) ∧ Nds w' v S ∧ Below W.heap.size W w' := h
theorem fold_n (l : List Nd) (W : World) (v : Value) (hl : l.length ≤ 1000000) (hwf : NdWf l) (h : Nds W v l) : Gives 52 #[v] W (foldF l).1 (foldF l).2 := by
  obtain ⟨A, c, rfl, hA, hc, hm, hr⟩ := h
  exact roll_fold A c l W hr hA hc hm hl hwf
theorem join_n (a b : List Nd) (W : World) (u v : Value) (hl : a.length + b.length ≤ 1000000) (ha : NdWf a) (hb : NdWf b) (h : Nds W u a) (k : Nds W v b) : Gives 54 #[u, v] W (joinF a b).1 (joinF a b).2 := by
  obtain ⟨A, c, rfl, hA, hc, hm, hr⟩ := h
  obtain ⟨B, d, rfl, hB, hd, hn, hs⟩ := k
  exact roll_join A B c d a b W hr hs hA hB hl (nd_append ha hb)
theorem total_n (l : List Nd) (W : World) (v : Value) (m : Int) (hl : l.length ≤ 1000000) (hwf : NdWf l) (ht : totF l = (m, true)) (h : Nds W v l) :
    Calls Try.prog 46 #[v] W fun e w' => e = .returned (.tuple #[.int .i64 m, .bool true]) ∧ Below W.heap.size W w' := by
  obtain ⟨A, c, rfl, hA, hc, hm, hr⟩ := h
  have := roll_total A c l W hr hl hwf
  rwa [ht] at this
theorem right_n (L : Int) (l : List Nd) (W : World) (v : Value) (b : Bool) (hl : l.length ≤ 1000000) (hwf : NdWf l) (ht : rollB L l = b) (h : Nds W v l) :
    Calls Try.prog 48 #[.int .i64 L, v] W fun e w' => e = .returned (.bool b) ∧ Below W.heap.size W w' := by
  obtain ⟨A, c, rfl, hA, hc, hm, hr⟩ := h
  have := roll_right L A c l W hr hl hwf
  rwa [ht] at this

theorem allR_nil (L : Int) (b : Bool) : allR L b [] = b := rfl
theorem allR_cons (L : Int) (b : Bool) (p : Nd) (l : List Nd) : allR L b (p :: l) = allR L (b && rightB L p.1) l := rfl

set_option maxRecDepth 100000 in
set_option maxHeartbeats 8000000 in
theorem rollBack_walk (L : Int) (A : Option Addr) (c : Nat) (a : List Nd) (B : Option Addr) (d : Nat) (b : List Nd) (w : World) (_hL : -9223372036854775808 ≤ L ∧ L ≤ 9223372036854775807) (hr : Rd w A a.length 2 (ndc a)) (hA : A = none → a.length = 0) (hc : a.length ≤ c) (hm : c ≤ maxLen) (hwf : NdWf a)
    (hs : Rd w B b.length 2 (ndc b)) (hB : B = none → b.length = 0) (hd : b.length ≤ d) (hmd : d ≤ maxLen) (hwg : NdWf b) :
    Calls Try.prog 13 #[.int .i64 L, .slice A a.length c, .slice B b.length d] w fun e w' => e = .returned (.bool true) ∧ Below w.heap.size w w' := by
  by_cases hl : 100 < a.length
  · have hl2 : (100 : Int) < (a.length : Int) := by omega
    clear hr hA hc hm hl hs hB hd
    generalize a.length = n at *
    generalize b.length = m at *
    go_enter Try.func13, Try.ntmps13
    go_wp2_with fail
    refine (alive06 _).mono ?_
    rintro e w1 ⟨rfl, hb1⟩
    go_wp2_with fail
    go_ret
    exact ⟨rfl, hb1⟩
  by_cases hk : 100 < b.length
  · have hl2 : ¬ (100 : Int) < (a.length : Int) := by omega
    have hk2 : (100 : Int) < (b.length : Int) := by omega
    clear hr hA hc hm hl hs hB hd hk
    generalize a.length = n at *
    generalize b.length = m at *
    go_enter Try.func13, Try.ntmps13
    go_wp2_with fail
    refine (alive06 _).mono ?_
    rintro e w1 ⟨rfl, hb1⟩
    go_wp2_with fail
    go_ret
    exact ⟨rfl, hb1⟩
  have hl2 : ¬ (100 : Int) < (a.length : Int) := by omega
  have hk2 : ¬ (100 : Int) < (b.length : Int) := by omega
  have hna : Nds w (.slice A a.length c) a := ⟨A, c, rfl, hA, hc, hm, hr⟩
  have hnb : Nds w (.slice B b.length d) b := ⟨B, d, rfl, hB, hd, hmd, hs⟩
  have hla : a.length ≤ 1000 := by omega
  have hlb : b.length ≤ 1000 := by omega
  have hlen : (joinF a b).1.length ≤ 1000 := by
    show (foldF (a ++ b)).1.length ≤ 1000
    have hF : (foldF (a ++ b)).1.length ≤ (a ++ b).length := by
      unfold foldF
      split
      · have := foldGo_len (isort ltS (a ++ b)) []
        rw [isort_length] at this
        simpa using this
      · simp
    rw [List.length_append] at hF
    omega
  have h1 := fun W (hW : Below w.heap.size w W) => join_n a b W _ _ (by omega) hwf hwg (hna.kept hW) (hnb.kept hW)
  have h2 := fun W (hW : Below w.heap.size w W) => join_n b a W _ _ (by omega) hwg hwf (hnb.kept hW) (hna.kept hW)
  rw [join_comm a b] at h2
  rcases join_all a b with hbad | ⟨s, p, q, hj, J⟩
  · rw [hbad] at h1 h2 hlen
    have h3 := fun W u v => same_true [] W u v (by simp)
    generalize hva : Value.slice A a.length c = va at *
    generalize hvb : Value.slice B b.length d = vb at *
    replace h1 := hide h1
    replace h2 := hide h2
    replace h3 := hide h3
    clear hr hs hA hB hc hd hna hnb hl hk
    subst hva hvb
    generalize a.length = n at *
    generalize b.length = m at *
    go_enter Try.func13, Try.ntmps13
    go_wp2_with fail
    refine (h1.out _ (Below.refl _ _)).out.mono ?_
    rintro e w1 ⟨v1, rfl, hv1, hb1⟩
    go_wp2_with fail
    refine (h2.out _ hb1).out.mono ?_
    rintro e w2 ⟨v2, rfl, hv2, hb2⟩
    have hc2 := bthen hb1 hb2
    have hv1b := hv1.kept hb2
    obtain ⟨A1, c1, rfl, _, _, _, hr1⟩ := hv1
    go_wp2_with fail
    refine (h3.out _ _ _ hv1b hv2).mono ?_
    rintro e w3 ⟨rfl, hb3⟩
    have hc3 := bthen hc2 hb3
    go_wp2_with fail
    refine (alive06 _).mono ?_
    rintro e w4 ⟨rfl, hb4⟩
    go_wp2_with fail
    go_ret
    exact ⟨rfl, bthen hc3 hb4⟩
  · obtain ⟨fs, fa, fb, pq, ⟨m1, n1, tp, tq, ts, hm0, hn0, hmn⟩, bs, bp, bq, canon, ids⟩ := J
    have ws := wf_bd bs (nd_append hwf hwg)
    have wp := wf_bd bp hwf
    have wq := wf_bd bq hwg
    rw [hj] at h1 h2 hlen
    have hls : s.length ≤ 1000 := hlen
    have hlp : p.length ≤ 1000000 := by have := foldF_len a (by omega); rwa [fa] at this
    have hlq : q.length ≤ 1000000 := by have := foldF_len b (by omega); rwa [fb] at this
    have hlpq : p.length + q.length ≤ 1000000 := by
      have k1 : ∀ x : List Nd, (foldF x).1.length ≤ x.length := fun x => by
        unfold foldF
        split
        · have := foldGo_len (isort ltS x) []
          rw [isort_length] at this
          simpa using this
        · simp
      have k2 := k1 a
      have k3 := k1 b
      rw [fa] at k2
      rw [fb] at k3
      simp only at k2 k3
      omega
    have h3 := fun W u v => same_true s W u v (by omega)
    have h4 := fun W u hu => fold_n s W u (by omega) ws hu
    have h5 := fun W (hW : Below w.heap.size w W) => fold_n a W _ (by omega) hwf (hna.kept hW)
    have h6 := fun W (hW : Below w.heap.size w W) => fold_n b W _ (by omega) hwg (hnb.kept hW)
    have h7 := fun W u v hu hv => join_n p q W u v hlpq wp wq hu hv
    rw [fs] at h4
    rw [fa] at h5
    rw [fb] at h6
    rw [pq] at h7
    simp only at h1 h2 h4 h5 h6 h7
    have h8 := fun W u hu => total_n p W u m1 hlp wp tp hu
    have h9 := fun W u hu => total_n q W u n1 hlq wq tq hu
    have h10 := fun W u hu => total_n s W u (m1 + n1) (by omega) ws ts hu
    have hG := roll_all L s (m1 + n1) canon ids ts
    have hR := fun W u hu => right_n L s W u (rollB L s) (by omega) ws rfl hu
    generalize rollB L s = G at hG hR
    have hU := fun W => right_c L 1 W
    rw [uni_right] at hU
    obtain ⟨u0, hu0⟩ : ∃ u0, uniB L = u0 := ⟨_, rfl⟩
    rw [hu0] at hU hG
    generalize hva : Value.slice A a.length c = va at *
    generalize hvb : Value.slice B b.length d = vb at *
    replace h1 := hide h1
    replace h2 := hide h2
    replace h3 := hide h3
    replace h4 := hide h4
    replace h5 := hide h5
    replace h6 := hide h6
    replace h7 := hide h7
    replace h8 := hide h8
    replace h9 := hide h9
    replace h10 := hide h10
    replace hR := hide hR
    replace hU := hide hU
    replace hG := hide hG
    clear hr hs hA hB hc hd hna hnb hl hk fs fa fb pq tp tq ts hj hu0 hlp hlq hlpq hlen
    subst hva hvb
    generalize a.length = n at *
    generalize b.length = m at *
    obtain ⟨k, hk⟩ : ∃ k, Hid (s.length = k) := ⟨_, rfl⟩
    rw [hk.out] at hls
    go_enter Try.func13, Try.ntmps13
    go_wp2_with fail
    refine (h1.out _ (Below.refl _ _)).out.mono ?_
    rintro e w1 ⟨v1, rfl, hv1, hb1⟩
    go_wp2_with fail
    refine (h2.out _ hb1).out.mono ?_
    rintro e w2 ⟨v2, rfl, hv2, hb2⟩
    have hc2 := bthen hb1 hb2
    replace hv1 := hv1.kept hb2
    go_wp2_with fail
    refine (h3.out _ _ _ hv1 hv2).mono ?_
    rintro e w3 ⟨rfl, hb3⟩
    have hc3 := bthen hc2 hb3
    replace hv1 := hv1.kept hb3
    go_wp2_with fail
    refine (h4.out _ _ hv1).out.mono ?_
    rintro e w4 ⟨v4, rfl, hv4, hb4⟩
    have hc4 := bthen hc3 hb4
    replace hv1 := hv1.kept hb4
    go_wp2_with fail
    refine (h5.out _ hc4).out.mono ?_
    rintro e w5 ⟨v5, rfl, hv5, hb5⟩
    have hc5 := bthen hc4 hb5
    replace hv1 := hv1.kept hb5
    replace hv4 := hv4.kept hb5
    go_wp2_with fail
    refine (h6.out _ hc5).out.mono ?_
    rintro e w6 ⟨v6, rfl, hv6, hb6⟩
    have hc6 := bthen hc5 hb6
    replace hv1 := hv1.kept hb6
    replace hv4 := hv4.kept hb6
    replace hv5 := hv5.kept hb6
    go_wp2_with fail
    refine (h7.out _ _ _ hv5 hv6).out.mono ?_
    rintro e w7 ⟨v7, rfl, hv7, hb7⟩
    have hc7 := bthen hc6 hb7
    replace hv1 := hv1.kept hb7
    replace hv4 := hv4.kept hb7
    replace hv5 := hv5.kept hb7
    replace hv6 := hv6.kept hb7
    go_wp2_with fail
    refine (h3.out _ _ _ hv4 hv1).mono ?_
    rintro e w8 ⟨rfl, hb8⟩
    have hc8 := bthen hc7 hb8
    replace hv1 := hv1.kept hb8
    replace hv5 := hv5.kept hb8
    replace hv6 := hv6.kept hb8
    replace hv7 := hv7.kept hb8
    go_wp2_with fail
    refine (h3.out _ _ _ hv7 hv1).mono ?_
    rintro e w9 ⟨rfl, hb9⟩
    have hc9 := bthen hc8 hb9
    replace hv1 := hv1.kept hb9
    replace hv5 := hv5.kept hb9
    replace hv6 := hv6.kept hb9
    go_wp2_with fail
    refine (h8.out _ _ hv5).mono ?_
    rintro e w10 ⟨rfl, hb10⟩
    have hc10 := bthen hc9 hb10
    replace hv1 := hv1.kept hb10
    replace hv6 := hv6.kept hb10
    go_wp2_with fail
    refine (h9.out _ _ hv6).mono ?_
    rintro e w11 ⟨rfl, hb11⟩
    have hc11 := bthen hc10 hb11
    replace hv1 := hv1.kept hb11
    go_wp2_with fail
    refine (h10.out _ _ hv1).mono ?_
    rintro e w12 ⟨rfl, hb12⟩
    have hc12 := bthen hc11 hb12
    replace hv1 := hv1.kept hb12
    clear hv2 hv4 hv5 hv6 hv7 hb1 hb2 hb3 hb4 hb5 hb6 hb7 hb8 hb9 hb10 hb11 hb12 hc2 hc3 hc4 hc5 hc6 hc7 hc8 hc9 hc10 hc11 h1 h2 h3 h4 h5 h6 h7 h8 h9 h10
    go_wp2_with fail
    refine (hU.out _).mono ?_
    rintro e w13 ⟨rfl, rfl⟩
    have hv1b := hv1
    obtain ⟨A1, c1, rfl, _, _, _, hr1⟩ := hv1
    have hrn : Hid (Rd w12 A1 s.length 2 (ndc s)) := hr1
    have hvn : Hid (Nds w12 (.slice A1 k c1) s) := by have := hv1b; rw [hk.out] at this; exact this
    clear hr1 hv1b
    rw [hk.out]
    go_wp2_with fail
    go_loopw [25, 141] (fun o j wr => ∃ (t : Bool) (i : Nat), i ≤ k ∧ o = .bool t ∧ j = .int .i64 i ∧ Hid (allR L t (s.drop i) = G) ∧ Below w12.heap.size w12 wr) (fun _ j _ => k - (intOf j).toNat)
    case atStart => exact ⟨u0, 0, by omega, rfl, rfl, by show _ = _; rw [List.drop_zero, hG.out], Below.refl _ _⟩
    case round =>
      obtain ⟨t, i, hi, rfl, rfl, hgo, hbel⟩ := hrel
      by_cases hlt : i < k
      · have hil : i < s.length := by rw [hk.out]; exact hlt
        obtain ⟨bb, off, rfl, hb, c0, c1⟩ := rd_at (hrn.out.of_below (Nat.le_refl _) hbel) hil
        rw [List.drop_eq_getElem_cons hil] at hgo
        generalize s[i] = pp at *
        obtain ⟨x, y⟩ := pp
        simp only at c0 c1
        cases t
        · have hgo2 : Hid (allR L false (s.drop (i + 1)) = G) := by show _ = _; rw [← hgo.out, allR_cons, Bool.false_and]
          go_wp2_with fail
          go_roundw
          case rel => exact ⟨false, i + 1, by omega, rfl, by go_num, hgo2, balloc hbel _⟩
          case measure => simp [intOf]; omega
        · have hX := fun W => right_c L x W
          have hgo2 : Hid (allR L (rightB L x) (s.drop (i + 1)) = G) := by show _ = _; rw [← hgo.out, allR_cons, Bool.true_and]
          generalize rightB L x = rx at hX hgo2
          replace hX := hide hX
          go_wp2_with (go_at_call 27; refine (hX.out _).mono ?_; rintro e w1 ⟨rfl, rfl⟩)
          go_roundw
          case rel => exact ⟨rx, i + 1, by omega, rfl, by go_num, hgo2, balloc hbel _⟩
          case measure => simp [intOf]; omega
      · have hres : Hid (t = G) := by show _ = _; rw [← hgo.out, List.drop_of_length_le (by rw [hk.out]; omega), allR_nil]
        go_wp2_with fail
        refine (hR.out _ _ (hvn.out.kept hbel)).mono ?_
        rintro e w14 ⟨rfl, hb14⟩
        rw [← hres.out]
        go_wp2_with fail
        refine (alive06 _).mono ?_
        rintro e w15 ⟨rfl, hb15⟩
        go_wp2_with fail
        go_ret
        exact ⟨rfl, bthen (bthen (bthen hc12 hbel) hb14) hb15⟩
end Go.Proofs.Ytbfecpomlkapdaa

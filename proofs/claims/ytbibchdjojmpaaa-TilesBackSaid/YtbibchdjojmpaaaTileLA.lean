/- Layer 5: the laws TilesOf, TilesJoin, TilesHolds, walked. By the prover of this repo. -/
import Derived.Test.YtbibchdjojmpaaaTileA
import Derived.Test.YtbibchdjojmpaaaFrame
namespace Go.Proofs.Ytbibchdjojmpaaa
open Go.RowKit
open TwigM TileM

theorem same_its (S : List Int) (W : World) (u v : Value) (hlen : S.length ≤ 100000000) (hu : Its W u S) (hv : Its W v S) : Calls Try.prog 20 #[u, v] W fun e w' => e = .returned (.bool true) ∧ Below W.heap.size W w' := by
  obtain ⟨A1, c1, rfl, _, _, _, hr1⟩ := hu
  obtain ⟨A2, c2, rfl, _, _, _, hr2⟩ := hv
  have := same_ints A1 A2 c1 c2 S S W hr1 hr2 hlen hlen
  rw [decide_eq_true rfl] at this
  exact this

set_option maxRecDepth 100000 in
set_option maxHeartbeats 1000000 in
theorem tilesOf_walk (l a b : Int) (w : World) (_hl : -9223372036854775808 ≤ l ∧ l ≤ 9223372036854775807) (ha : -9223372036854775808 ≤ a ∧ a ≤ 9223372036854775807) (hb : -9223372036854775808 ≤ b ∧ b ≤ 9223372036854775807) :
    Calls Try.prog 5 #[.int .i64 l, .int .i64 a, .int .i64 b] w fun e w' => e = .returned (.bool true) ∧ Below w.heap.size w w' := by
  have h1 := hide (fun W => tiles_of l a b W ha hb)
  have h2 := hide (fun W => ref05_of l a b W ha hb)
  have hlen := ofL_length l a b
  have h3 := fun W u v => same_its (ofL l a b) W u v (by omega)
  generalize ofL l a b = S at *
  generalize ofB l a b = q at *
  replace h3 := hide h3
  have e1 : (q == q) = true := by simp
  clear ha hb
  go_enter Try.func5, Try.ntmps5
  go_wp2_with fail
  refine (h1.out _).mono ?_
  rintro e w1 ⟨v1, rfl, hv1, hb1⟩
  replace hv1 := hide hv1
  replace hb1 := hide hb1
  go_wp2_with fail
  refine (h2.out _).mono ?_
  rintro e w2 ⟨v2, rfl, hv2, hb2⟩
  have hs := h3.out w2 v1 v2 (hv1.out.kept hb2) hv2
  replace hb2 := hide hb2
  replace hv2 := hide hv2
  replace hs := hide hs
  go_wp2_with fail
  refine hs.out.mono ?_
  rintro e w3 ⟨rfl, hb3⟩
  replace hb3 := hide hb3
  go_wp2_with fail
  refine (alive05 _).mono ?_
  rintro e w4 ⟨rfl, hb4⟩
  go_wp2_with fail
  go_ret
  exact ⟨rfl, bthen (bthen (bthen hb1.out hb2.out) hb3.out) hb4⟩

theorem rd_none {w : World} {A : Option Addr} {n size : Nat} {f : Nat → Value} (h : Rd w A n size f) (hA : A = none) : n = 0 := by
  by_cases hn : 0 < n
  · obtain ⟨b, off, e, _⟩ := h hn
    rw [hA] at e
    cases e
  · omega
theorem it_wf {z : List Int} (hb : ∀ x ∈ z, (Lit.int .i64 x).wf = true) : ItWf z := fun x hx => i64_bounds (hb x hx)
theorem restR_length (L : Int) : ∀ (l : List Run) (x : Int), (restR L x l).length ≤ l.length + 1
  | [], x => by rw [restR]; split <;> simp
  | r :: l, x => by
    have := restR_length L l (r.2 + 1)
    rw [restR]
    split <;> simp <;> omega
theorem long_alive {n : Nat} (h : ¬ n ≤ 60) : (60 : Int) < (n : Int) := by omega

set_option maxRecDepth 100000 in
set_option maxHeartbeats 2000000 in
theorem tilesJoin_walk (l : Int) (A : Option Addr) (n c : Nat) (z : List Int) (w : World) (_hl : -9223372036854775808 ≤ l ∧ l ≤ 9223372036854775807) (hz : z.length = n) (hnc : n ≤ c) (hc : c ≤ maxLen)
    (r : Rd w A n 1 (fun i => .int .i64 (z.getD i 0))) (hb : ∀ x ∈ z, (Lit.int .i64 x).wf = true) :
    Calls Try.prog 6 #[.int .i64 l, .slice A n c] w fun e w' => e = .returned (.bool true) ∧ Below w.heap.size w w' := by
  by_cases h60 : n ≤ 60
  · have hr : Rd w A z.length 1 (ic z) := by rw [hz]; exact r
    have hA : A = none → z.length = 0 := fun h => by rw [hz]; exact rd_none r h
    have hwf := it_wf hb
    have h1 := fun W (hW : Below w.heap.size w W) => tiles_join l A c z W (hr.kept hW) hA (by omega)
    have h2 := fun W (hW : Below w.heap.size w W) => ref05_join l A c z W (hr.kept hW) (by omega) hwf
    have h3 := fun W (hW : Below w.heap.size w W) => tiles_rest l A c z W (hr.kept hW) hA (by omega)
    have h4 := fun W (hW : Below w.heap.size w W) => ref05_rest l A c z W (hr.kept hW) (by omega) hwf
    have h5 := fun W (hW : Below w.heap.size w W) => tiles_right l A c z W (hr.kept hW) (by omega)
    have h6 := fun W (hW : Below w.heap.size w W) => ref05_right l A c z W (hr.kept hW) (by omega) hwf
    have hjl : (joinL l z).length ≤ 100000000 := by
      unfold joinL
      split
      · rename_i h
        obtain ⟨hL1, hL2, hN⟩ := nd_of_all h
        have := joinR_length hL1 hL2 hN
        omega
      · simp
    have hrl : (restL l z).length ≤ 100000000 := by
      unfold restL
      split
      · rename_i h
        obtain ⟨hL1, hL2, hN⟩ := nd_of_all h
        have hok := runs_ok hN
        have hpw := pw_pos l
        obtain ⟨f1, f2, _⟩ := restR_facts _ (runs_from _ 0 hok.1 hok.2.2 (Int.le_refl _) (by omega) (fun r hr => (hok.2.2 r hr).1))
        have := layR_length l _ f2 f1.le hL1 hL2
        have h7 := restR_length l (runsGo l [] z) 0
        have h8 := runsGo_length l z []
        simp only [List.length_nil] at h8
        show (layR l (restR l 0 (runsGo l [] z))).length ≤ _
        omega
      · simp
    have s1 := hide (fun W u v => same_its (joinL l z) W u v hjl)
    have s2 := hide (fun W u v => same_its (restL l z) W u v hrl)
    rw [hz] at h1 h2 h3 h4 h5 h6
    generalize joinL l z = S at *
    generalize restL l z = R at *
    generalize adj l z = d at *
    generalize allB l z = q at *
    have e1 : (q == q) = true := by simp
    have e2 : ((q && d) == (q && d)) = true := by simp
    replace h1 := hide h1
    replace h2 := hide h2
    replace h3 := hide h3
    replace h4 := hide h4
    replace h5 := hide h5
    replace h6 := hide h6
    clear hr hA hwf hjl hrl r hb hz hnc hc
    go_enter Try.func6, Try.ntmps6
    go_wp2_with fail
    refine (h1.out _ (Below.refl _ _)).mono ?_
    rintro e w1 ⟨v1, rfl, hv1, hb1⟩
    replace hv1 := hide hv1
    replace hb1 := hide hb1
    go_wp2_with fail
    refine (h2.out _ hb1.out).mono ?_
    rintro e w2 ⟨v2, rfl, hv2, hb2⟩
    have k1 := hide (bthen hb1.out hb2)
    have q1 := hide (fun W (hW : Below w2.heap.size w2 W) => s1.out W v1 v2 ((hv1.out.kept hb2).kept hW) (hv2.kept hW))
    clear hv1 hb1 hv2 hb2
    go_wp2_with fail
    refine (h3.out _ k1.out).mono ?_
    rintro e w3 ⟨v3, rfl, hv3, hb3⟩
    have k2 := hide (bthen k1.out hb3)
    replace hv3 := hide hv3
    replace hb3 := hide hb3
    go_wp2_with fail
    refine (h4.out _ k2.out).mono ?_
    rintro e w4 ⟨v4, rfl, hv4, hb4⟩
    have k3 := hide (bthen k2.out hb4)
    have m3 := hide (bthen hb3.out hb4)
    have q2 := hide (fun W (hW : Below w4.heap.size w4 W) => s2.out W v3 v4 ((hv3.out.kept hb4).kept hW) (hv4.kept hW))
    clear hv3 hb3 hv4 hb4
    go_wp2_with fail
    refine (q1.out _ m3.out).mono ?_
    rintro e w5 ⟨rfl, hb5⟩
    have k4 := hide (bthen k3.out hb5)
    replace hb5 := hide hb5
    go_wp2_with fail
    refine (q2.out _ hb5.out).mono ?_
    rintro e w6 ⟨rfl, hb6⟩
    have k5 := hide (bthen k4.out hb6)
    clear hb5 hb6
    go_wp2_with fail
    refine (h5.out _ k5.out).mono ?_
    rintro e w7 ⟨rfl, hb7⟩
    have k6 := hide (bthen k5.out hb7)
    clear hb7
    go_wp2_with fail
    refine (h6.out _ k6.out).mono ?_
    rintro e w8 ⟨rfl, rfl⟩
    go_wp2_with fail
    refine (alive05 _).mono ?_
    rintro e w9 ⟨rfl, hb9⟩
    go_wp2_with fail
    go_ret
    exact ⟨rfl, bthen k6.out hb9⟩
  · have h := long_alive h60
    clear h60 r hb hz
    go_enter Try.func6, Try.ntmps6
    go_wp2_with fail
    refine (alive05 _).mono ?_
    rintro e w1 ⟨rfl, hb1⟩
    go_wp2_with fail
    go_ret
    exact ⟨rfl, hb1⟩
end Go.Proofs.Ytbibchdjojmpaaa

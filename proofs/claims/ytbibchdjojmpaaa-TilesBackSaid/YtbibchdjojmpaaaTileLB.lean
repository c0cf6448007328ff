/- Layer 5: the laws TilesHolds, TilesFew, walked. By the prover of this repo. -/
import Derived.Test.YtbibchdjojmpaaaTileLA
namespace Go.Proofs.Ytbibchdjojmpaaa
open Go.RowKit
open TwigM TileM

theorem any_held {x : Int} {R : List Run} : R.any (heldR x) = true ↔ CovR R x := by
  rw [List.any_eq_true]
  unfold CovR heldR
  constructor
  · rintro ⟨r, hr, h⟩; exact ⟨r, hr, of_decide_eq_true h⟩
  · rintro ⟨r, hr, h⟩; exact ⟨r, hr, decide_eq_true h⟩
theorem holds_same (L : Int) (l : List Int) (x : Int) : holdsB L l x = holdsR L l x := by
  unfold holdsB holdsR
  cases hq : allB L l
  · rw [Bool.false_and, Bool.false_and, Bool.and_false]
  · obtain ⟨hL1, hL2, hN⟩ := nd_of_all hq
    have hok := runs_ok hN
    rw [runL_ok hq, Bool.true_and, Bool.true_and]
    by_cases hx : 0 ≤ x ∧ x < pw L
    · have e : leafF L x = (pw L + x, true) := if_pos ⟨hL1, hL2, hx.1, hx.2⟩
      rw [e, Bool.true_and, Bool.eq_iff_iff, any_held, hok.2.1 x]
      exact holds_iff hx hL1 hL2 hN
    · have e : leafF L x = (0, false) := if_neg (fun k => hx ⟨k.2.2.1, k.2.2.2⟩)
      rw [e, Bool.false_and]
      symm
      rw [Bool.eq_false_iff]
      intro k
      have := (hok.2.1 x).1 (any_held.1 k)
      exact hx (cov_in hN this)

set_option maxRecDepth 100000 in
set_option maxHeartbeats 2000000 in
theorem tilesHolds_walk (l : Int) (A : Option Addr) (n c : Nat) (z : List Int) (x : Int) (w : World) (_hl : -9223372036854775808 ≤ l ∧ l ≤ 9223372036854775807) (hz : z.length = n) (hnc : n ≤ c) (hc : c ≤ maxLen)
    (r : Rd w A n 1 (fun i => .int .i64 (z.getD i 0))) (hb : ∀ x ∈ z, (Lit.int .i64 x).wf = true) (hx : -9223372036854775808 ≤ x ∧ x ≤ 9223372036854775807) :
    Calls Try.prog 8 #[.int .i64 l, .slice A n c, .int .i64 x] w fun e w' => e = .returned (.bool true) ∧ Below w.heap.size w w' := by
  by_cases h60 : n ≤ 60
  · have hr : Rd w A z.length 1 (ic z) := by rw [hz]; exact r
    have hA : A = none → z.length = 0 := fun h => by rw [hz]; exact rd_none r h
    have hwf := it_wf hb
    have h1 := fun W (hW : Below w.heap.size w W) => tiles_count l A c z W (hr.kept hW) hA (by omega)
    have h2 := fun W (hW : Below w.heap.size w W) => ref05_count l A c z W (hr.kept hW) (by omega) hwf
    have h3 := fun W (hW : Below w.heap.size w W) => tiles_holds l x A c z W (hr.kept hW) (by omega) hx.2
    have h4 := fun W (hW : Below w.heap.size w W) => ref05_holds l x A c z W (hr.kept hW) (by omega) hwf
    rw [holds_same] at h3
    rw [hz] at h1 h2 h3 h4
    generalize holdsR l z x = q at *
    generalize countF l z = k at *
    obtain ⟨k1, k2⟩ := k
    have e1 : (q == q) = true := by simp
    have e2 : (k2 == k2) = true := by simp
    have e3 : (k1 == k1) = true := by simp
    replace h1 := hide h1
    replace h2 := hide h2
    replace h3 := hide h3
    replace h4 := hide h4
    clear hr hA hwf r hb hz hnc hc hx
    go_enter Try.func8, Try.ntmps8
    go_wp2_with fail
    refine (h1.out _ (Below.refl _ _)).mono ?_
    rintro e w1 ⟨rfl, hb1⟩
    replace hb1 := hide hb1
    go_wp2_with fail
    refine (h2.out _ hb1.out).mono ?_
    rintro e w2 ⟨rfl, hb2⟩
    have b2 := hide (bthen hb1.out hb2)
    clear hb1 hb2
    go_wp2_with fail
    refine (h3.out _ b2.out).mono ?_
    rintro e w3 ⟨rfl, hb3⟩
    have b3 := hide (bthen b2.out hb3)
    clear hb3
    go_wp2_with fail
    refine (h4.out _ b3.out).mono ?_
    rintro e w4 ⟨rfl, hb4⟩
    have b4 := hide (bthen b3.out hb4)
    clear hb4
    go_wp2_with fail
    refine (alive05 _).mono ?_
    rintro e w9 ⟨rfl, hb9⟩
    go_wp2_with fail
    go_ret
    exact ⟨rfl, bthen b4.out hb9⟩
  · have h := long_alive h60
    clear h60 r hb hz
    go_enter Try.func8, Try.ntmps8
    go_wp2_with fail
    refine (alive05 _).mono ?_
    rintro e w1 ⟨rfl, hb1⟩
    go_wp2_with fail
    go_ret
    exact ⟨rfl, hb1⟩

set_option maxRecDepth 100000 in
set_option maxHeartbeats 4000000 in
theorem tilesFew_walk (l a b : Int) (w : World) (_hl : -9223372036854775808 ≤ l ∧ l ≤ 9223372036854775807) (ha : -9223372036854775808 ≤ a ∧ a ≤ 9223372036854775807) (hb : -9223372036854775808 ≤ b ∧ b ≤ 9223372036854775807) :
    Calls Try.prog 7 #[.int .i64 l, .int .i64 a, .int .i64 b] w fun e w' => e = .returned (.bool true) ∧ Below w.heap.size w w' := by
  have h1 := tiles_of l a b w ha hb
  by_cases h : 1 ≤ l ∧ l ≤ 48 ∧ 0 ≤ a ∧ a ≤ b ∧ b < pw l
  · obtain ⟨hL1, hL2, h0, hab, hbp⟩ := h
    have eB : ofB l a b = true := decide_eq_true ⟨hL1, hL2, h0, hab, hbp⟩
    have eL : ofL l a b = tilesF l a b := by unfold ofL; rw [if_pos eB]
    have hlen := tiles_length hL1 hL2 h0 hab hbp
    have hrow := tiles_row hL1 hL2 h0 (show a ≤ b + 1 by omega) hbp
    have hpw := pw_le48 hL2
    have hN := fun t ht => (Row.nd _ _ hrow t ht).1
    have hall := all_right hL1 hL2 hN
    have hadj := Apart.adj _ (Row.apart _ _ hrow)
    rw [eB, eL] at h1
    generalize tilesF l a b = S at *
    have hR := fun A c W h => tiles_right l A c S W h (by omega)
    rw [hall, hadj, Bool.and_true] at hR
    have hrow : Hid (Row l b a (S.drop 0)) := by show Row _ _ _ _; rw [List.drop_zero]; exact hrow
    have hN := hide hN
    obtain ⟨n, hn⟩ : ∃ n, Hid (S.length = n) := ⟨_, rfl⟩
    replace hR := hide hR
    replace h1 := hide h1
    rw [hn.out] at hlen
    clear eB eL hall hadj ha hb
    go_enter Try.func7, Try.ntmps7
    go_wp2_with fail
    refine h1.out.mono ?_
    rintro e w1 ⟨v1, rfl, hv1, hb1⟩
    obtain ⟨A1, c1, rfl, hA1, hA2, hA3, hr1⟩ := hv1
    have hrr := hide (hR.out A1 c1)
    rw [hn.out] at hA1 hA2 hrr ⊢
    replace hr1 := hide hr1
    replace hb1 := hide hb1
    go_wp2_with fail
    go_loopw [9, 35] (fun at_ idx wr => ∃ (i : Nat) (x : Int), idx = .int .i64 i ∧ at_ = .int .i64 x ∧ i ≤ n ∧ Row l b x (S.drop i) ∧ Below w1.heap.size w1 wr) (fun _ idx _ => n - (intOf idx).toNat)
    case atStart => exact ⟨0, a, rfl, rfl, Nat.zero_le _, hrow.out, Below.refl _ _⟩
    case round =>
      clear hrow h1 hR
      obtain ⟨i, x, rfl, rfl, hin, hrow, hbel⟩ := hrel
      by_cases hlt : i < n
      · have hil : i < S.length := by rw [hn.out]; exact hlt
        obtain ⟨bk, off, rfl, hbs, hc⟩ := it_at (hr1.out.of_below (Nat.le_refl _) hbel) hil
        rw [List.drop_eq_getElem_cons hil] at hrow
        have hnext : ∀ h2 : i + 1 < S.length, ¬ S[i + 1] = xor1 S[i] := fun h2 => by
          have hrow2 := hrow
          rw [List.drop_eq_getElem_cons h2] at hrow2
          exact hrow2.no_pair
        have hc2 : ∀ h2 : i + 1 < S.length, wr.cell? ⟨bk, off + (i + 1), none⟩ = some (.int .i64 S[i + 1]) := fun h2 => by
          obtain ⟨b', off', e, _, d0⟩ := it_at (hr1.out.of_below (Nat.le_refl _) hbel) h2
          injection e with e
          injection e with e1 e2
          subst e1 e2
          exact d0
        generalize S[i] = t at *
        obtain ⟨g1, g2, g3, g4, g5⟩ := hrow
        have ht1 := g1.a
        have ht2 := g1.b
        have hE := fun W => ends_yes l t W g1.l1 g1.l2 g1.a g1.b
        change ∀ W : World, Calls _ _ _ _ fun e w' => e = .returned (.tuple #[.int .i64 (lo l t), .int .i64 (hi l t), .bool true]) ∧ ∃ n, w' = W.drewN n at hE
        have hP := fun W => pair_c t W (by omega)
        have hnr := node_range g1
        have hle := lo_le_hi g1
        rw [g2] at hE hnr hle
        generalize hi l t = q at *
        have hex : (x != x) = false := by simp
        replace hE := hide hE
        replace g5 := hide g5
        have hbel := hide hbel
        clear g1 g2 g3 g4
        unfold pairF at hP
        by_cases ht3 : t < 2
        · rw [if_pos ht3] at hP
          replace hP := hide hP
          clear hc2 hnext
          go_wp2_with (first
            | (go_at_call 28; refine (hE.out _).mono ?_; rintro e w2 ⟨rfl, n1, rfl⟩)
            | (go_at_call 29; refine (hP.out _).mono ?_; rintro e w2 ⟨rfl, rfl⟩))
          go_roundw
          case rel => exact ⟨i + 1, q + 1, rfl, rfl, by omega, g5.out, below_drewN hbel.out _⟩
          case measure => simp [intOf]; omega
        · rw [if_neg ht3] at hP
          change ∀ W, Calls _ _ _ W fun e w' => e = .returned (.tuple #[.int .i64 (xor1 t), .bool true]) ∧ W = w' at hP
          generalize xor1 t = y at *
          replace hP := hide hP
          by_cases h2 : i + 1 < n
          · have h3 : i + 1 < S.length := by rw [hn.out]; exact h2
            have d0 := hc2 h3
            have hne := hnext h3
            generalize S[i + 1] = s at *
            have hne2 : (s == y) = false := by simpa using hne
            clear hc2 hnext
            go_wp2_with (first
              | (go_at_call 28; refine (hE.out _).mono ?_; rintro e w2 ⟨rfl, n1, rfl⟩)
              | (go_at_call 29; refine (hP.out _).mono ?_; rintro e w2 ⟨rfl, rfl⟩))
            go_roundw
            case rel => exact ⟨i + 1, q + 1, rfl, rfl, by omega, g5.out, below_drewN hbel.out _⟩
            case measure => simp [intOf]; omega
          · clear hc2 hnext
            go_wp2_with (first
              | (go_at_call 28; refine (hE.out _).mono ?_; rintro e w2 ⟨rfl, n1, rfl⟩)
              | (go_at_call 29; refine (hP.out _).mono ?_; rintro e w2 ⟨rfl, rfl⟩))
            go_roundw
            case rel => exact ⟨i + 1, q + 1, rfl, rfl, by omega, g5.out, below_drewN hbel.out _⟩
            case measure => simp [intOf]; omega
      · have hd : S.drop i = [] := List.drop_of_length_le (by rw [hn.out]; omega)
        rw [hd] at hrow
        have hxb : x = b + 1 := hrow
        subst hxb
        have hrr2 := hide (hrr.out wr (by rw [← hn.out]; exact hr1.out.of_below (Nat.le_refl _) hbel))
        have hbel := hide hbel
        have ee : (b + 1 == b + 1) = true := by simp
        go_wp2_with fail
        refine hrr2.out.mono ?_
        rintro e w2 ⟨rfl, hb2⟩
        replace hb2 := hide hb2
        go_wp2_with fail
        refine (alive05 _).mono ?_
        rintro e w3 ⟨rfl, hb3⟩
        go_wp2_with fail
        go_ret
        exact ⟨rfl, bthen (bthen (hb1.out.trans (hbel.out.mono hb1.out.size)) hb2.out) hb3⟩
  · have eB : ofB l a b = false := decide_eq_false h
    have eL : ofL l a b = [] := by unfold ofL; rw [if_neg (by rw [eB]; decide)]
    rw [eB, eL] at h1
    replace h1 := hide h1
    clear eB eL h ha hb
    go_enter Try.func7, Try.ntmps7
    go_wp2_with fail
    refine h1.out.mono ?_
    rintro e w1 ⟨v1, rfl, hv1, hb1⟩
    obtain ⟨A1, c1, rfl, hA1, hA2, hA3, hr1⟩ := hv1
    replace hb1 := hide hb1
    clear hr1
    simp only [List.length_nil] at hA1 hA2 ⊢
    go_wp2_with fail
    refine (alive05 _).mono ?_
    rintro e w3 ⟨rfl, hb3⟩
    go_wp2_with fail
    go_ret
    exact ⟨rfl, bthen hb1.out hb3⟩
end Go.Proofs.Ytbibchdjojmpaaa

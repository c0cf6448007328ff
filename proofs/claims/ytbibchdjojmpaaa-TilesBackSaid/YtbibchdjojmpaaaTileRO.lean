/- The walks of layer 5's reference: whether two lists are the same, the tiles of a run. By the prover of this repo. -/
import Derived.Test.YtbibchdjojmpaaaTileO
import Derived.BigQuiet
import Derived.Deep.QuietTactic
namespace Go.Proofs.Ytbibchdjojmpaaa
open Go.RowKit
open TwigM TileM

set_option maxRecDepth 100000 in
set_option maxHeartbeats 1000000 in
theorem same_ints (A B : Option Addr) (c d : Nat) (l m : List Int) (w : World) (hr : Rd w A l.length 1 (ic l)) (hs : Rd w B m.length 1 (ic m)) (hl : l.length ≤ 100000000) (hm : m.length ≤ 100000000) :
    Calls Try.prog 20 #[.slice A l.length c, .slice B m.length d] w fun e w' => e = .returned (.bool (decide (l = m))) ∧ Below w.heap.size w w' := by
  by_cases hlm : l.length = m.length
  · obtain ⟨n, hn⟩ : ∃ n, Hid (l.length = n) := ⟨_, rfl⟩
    rw [hn.out] at hl
    have hrn : Hid (Rd w A l.length 1 (ic l)) := hr
    have hsn : Hid (Rd w B m.length 1 (ic m)) := hs
    have hmn : Hid (m.length = n) := by show _ = _; rw [← hlm, hn.out]
    have h0 : Hid (decide (l = m) = decide (l.drop 0 = m.drop 0)) := rfl
    generalize decide (l = m) = G at *
    rw [hn.out, hmn.out]
    clear hr hs hlm hm
    go_enter Try.func20, Try.ntmps20
    go_wp2_with fail
    go_loopw [5] (fun k wr => ∃ (i : Nat), i ≤ n ∧ k = .int .i64 i ∧ Hid (G = decide (l.drop i = m.drop i)) ∧ Below w.heap.size w wr) (fun k _ => n - (intOf k).toNat)
    case atStart => exact ⟨0, by omega, rfl, h0.out, Below.refl _ _⟩
    case round =>
      obtain ⟨i, hi, rfl, hgo, hbel⟩ := hrel
      by_cases hlt : i < n
      · have hil : i < l.length := by rw [hn.out]; exact hlt
        have him : i < m.length := by rw [hmn.out]; exact hlt
        obtain ⟨b, off, rfl, hb, c0⟩ := it_at (hrn.out.of_below (Nat.le_refl _) hbel) hil
        obtain ⟨b', off', rfl, hb', d0⟩ := it_at (hsn.out.of_below (Nat.le_refl _) hbel) him
        rw [List.drop_eq_getElem_cons hil, List.drop_eq_getElem_cons him] at hgo
        generalize l[i] = x at *
        generalize m[i] = y at *
        by_cases hx : x = y
        · subst hx
          have hgo2 : Hid (G = decide (l.drop (i + 1) = m.drop (i + 1))) := by show _ = _; rw [hgo.out]; simp
          go_wp2_with fail
          go_quiet (fail)
          go_wp2_with fail
          go_roundw
          case rel => exact ⟨i + 1, by omega, by go_num, hgo2, below_drewN hbel _⟩
          case measure => simp [intOf]; omega
        · have hres : Hid (false = G) := by show _ = _; rw [hgo.out]; symm; rw [decide_eq_false_iff_not]; intro k; apply hx; injection k
          have hne : (x == y) = false := by simpa using hx
          clear hx
          go_wp2_with fail
          go_quiet (fail)
          go_wp2_with fail
          go_ret
          exact ⟨by rw [← hres.out]; rfl, below_drewN hbel _⟩
      · have hres : Hid (true = G) := by
          show _ = _
          rw [hgo.out, List.drop_of_length_le (by rw [hn.out]; omega), List.drop_of_length_le (by rw [hmn.out]; omega)]
          simp
        go_wp2_with fail
        go_ret
        exact ⟨by rw [← hres.out]; rfl, hbel⟩
  · rw [decide_eq_false (fun k => hlm (by rw [k]))]
    have hne : ((l.length : Int) != (m.length : Int)) = true := by simp; omega
    generalize l.length = n at *
    generalize m.length = k at *
    clear hlm
    go_enter Try.func20, Try.ntmps20
    go_wp2_with fail
    go_ret
    exact ⟨rfl, Below.refl _ _⟩

/-- Between two rounds: from where on, what is out, how many more at most. -/
def ORel (L a b : Int) (w : World) (out at_ : Value) (wr : World) : Prop :=
  ∃ (x : Int) (acc : List Int) (k : Nat), at_ = .int .i64 x ∧ a ≤ x ∧ x ≤ b + 1 ∧ (b + 1 - x).toNat ≤ k ∧ wr.ownsRow w.heap.size 3 1 out acc.length (iv acc) ∧ Hid (acc ++ greedy L b k x = tilesF L a b) ∧ Below w.heap.size w wr

set_option maxRecDepth 100000 in
set_option maxHeartbeats 2000000 in
theorem ref05_of (L a b : Int) (w : World) (ha : -9223372036854775808 ≤ a ∧ a ≤ 9223372036854775807) (hb : -9223372036854775808 ≤ b ∧ b ≤ 9223372036854775807) :
    Calls Try.prog 19 #[.int .i64 L, .int .i64 a, .int .i64 b] w fun e w' => ∃ v, e = .returned (.tuple #[v, .bool (ofB L a b)]) ∧ Its w' v (ofL L a b) ∧ Below w.heap.size w w' := by
  by_cases h : 1 ≤ L ∧ L ≤ 48 ∧ 0 ≤ a ∧ a ≤ b ∧ b < pw L
  · have e : ofB L a b = true := decide_eq_true h
    have el : Hid (ofL L a b = tilesF L a b) := by show _ = _; unfold ofL; rw [if_pos e]
    have hlen := ofL_length L a b
    rw [el.out] at hlen ⊢
    rw [e]
    obtain ⟨hL1, hL2, h0, hab, hbp⟩ := h
    have hI := hide (fun W => ris_yes L W hL1 hL2)
    have hP := hide (fun W => rpower L W (by omega))
    have hpw := pw_le48 hL2
    clear e el
    go_enter Try.func19, Try.ntmps19
    go_wp2_with (first
      | (go_at_call 41; refine (hI.out _).mono ?_; rintro e w1 ⟨rfl, rfl⟩)
      | (go_at_call 42; refine (hP.out _).mono ?_; rintro e w1 ⟨rfl, rfl⟩))
    go_loopw [8, 9] (fun out at_ wr => ORel L a b w out at_ wr) (fun _ at_ _ => (b + 1 - intOf at_).toNat)
    case atStart => exact ⟨a, [], (b + 1 - a).toNat, rfl, Int.le_refl _, by omega, Nat.le_refl _, World.ownsRow_nil _ _ _ _, by show _ = _; rw [List.nil_append]; rfl, Below.refl _ _⟩
    case round =>
      obtain ⟨x, acc, k, rfl, hax, hxb, hk, how, hgo, hbel⟩ := hrel
      obtain ⟨Ao, co, rfl, ho1, ho2, ho3⟩ := own_form how
      have hal : acc.length ≤ 96 := by
        have := congrArg List.length hgo.out
        rw [List.length_append] at this
        omega
      obtain ⟨n, hn⟩ : ∃ n, Hid (acc.length = n) := ⟨_, rfl⟩
      rw [hn.out] at hal how ho1 ho2 ⊢
      have hz := hbel.size
      have hbel := hide hbel
      by_cases hlt : x ≤ b
      · obtain ⟨k, rfl⟩ : ∃ j, k = j + 1 := ⟨k - 1, by omega⟩
        rw [greedy, if_neg (by omega)] at hgo
        simp only [] at hgo
        have hlf := leaf_ends hL1 hL2 (show 0 ≤ x by omega) (show x < pw L by omega)
        have hN := Nd.leaf hL1 hL2 (show 0 ≤ x by omega) (show x < pw L by omega)
        have hLf := fun W => rleaf_c L x W (by omega)
        unfold leafF at hLf
        rw [if_pos (by omega)] at hLf
        replace hLf := hide hLf
        have hpw0 := pw_pos L
        generalize hid0 : pw L + x = id0 at *
        generalize ht : upT L b id0 = t at hgo
        replace ht := hide ht
        replace hid0 := hide hid0
        have how := hide how
        have hst : Hid (hi L id0 = x) := hlf.2
        clear hlf
        go_wp2_with (go_at_call 43; refine (hLf.out _).mono ?_; rintro e w1 ⟨rfl, rfl⟩)
        go_loop [10, 12] (fun id h => ∃ (y q : Int), id = .int .i64 y ∧ h = .int .i64 q ∧ Nd L y ∧ x ≤ q ∧ q ≤ b ∧ Hid (hi L y = q) ∧ Hid (upT L b y = t)) (fun id _ => (intOf id).toNat)
        case atStart => exact ⟨id0, x, rfl, rfl, hN, Int.le_refl _, hlt, hst, ht⟩
        case round =>
          clear hid0 hst ht hN
          obtain ⟨y, q, rfl, rfl, hyN, hxq, hqb, hq, ht⟩ := hrel
          have hy1 := hyN.a
          have hy2 := hyN.b
          by_cases hev : y % 2 = 0
          · have hy3 : 2 ≤ y := by omega
            have hhN := hyN.half hy3
            have hE := fun W => rends_yes L (y / 2) W hhN.l1 hhN.l2 hhN.a hhN.b
            change ∀ W : World, Calls _ _ _ _ fun e w' => e = .returned (.tuple #[.int .i64 (lo L (y / 2)), .int .i64 (hi L (y / 2)), .bool true]) ∧ W = w' at hE
            have hup := (half_ends hyN hy3).1 hev
            rw [hq.out] at hup
            by_cases hend : hi L (y / 2) ≤ b
            · have ht2 : Hid (upT L b (y / 2) = t) := by show _ = _; rw [← upT_on ⟨hy3, hev, hend⟩]; exact ht.out
              obtain ⟨q2, hq2⟩ : ∃ q2, Hid (hi L (y / 2) = q2) := ⟨_, rfl⟩
              rw [hq2.out] at hend hup
              simp only [hq2.out] at hE
              generalize lo L (y / 2) = p2 at hE hup
              replace hE := hide hE
              go_wp2_with (go_at_call 38; refine (hE.out _).mono ?_; rintro e w1 ⟨rfl, rfl⟩)
              go_round
              case rel => exact ⟨y / 2, q2, rfl, rfl, hhN, by omega, hend, hq2, ht2⟩
              case measure => simp [intOf]; omega
            · have hyt : Hid (y = t) := by show _ = _; rw [← ht.out, upT_off (fun k => hend k.2.2)]
              generalize hi L (y / 2) = q2 at hE hend hup
              generalize lo L (y / 2) = p2 at hE hup
              replace hE := hide hE
              have hgo2 : Hid ((acc ++ [y]) ++ greedy L b k (q + 1) = tilesF L a b) := by
                show _ = _
                rw [← hgo.out, ← hq.out, hyt.out, List.append_assoc]; rfl
              go_wp2_with (first
                | (go_at_call 38; refine (hE.out _).mono ?_; rintro e w1 ⟨rfl, rfl⟩)
                | (at_builtin; refine wpList_app1 elInt rfl (.tmp 62) (.tmp 64) rfl w.heap.size _ _ _ [.int .i64 y] 3 rfl how.out rfl rfl (one1 rfl) (by omega) hz ?_; intro v1 w1 how1 hb1 hgr1 hat1; have how1 := hide how1; have hb1 := hide hb1; clear hgr1 hat1))
              go_roundw
              case rel => exact ⟨q + 1, acc ++ [y], k, rfl, by omega, by omega, by omega, by rw [iv_snoc, List.length_append, hn.out]; exact how1.out, hgo2, hbel.out.trans hb1.out⟩
              case measure => simp [intOf]; omega
          · have hyt : Hid (y = t) := by show _ = _; rw [← ht.out, upT_off (fun k => hev k.2.1)]
            have hgo2 : Hid ((acc ++ [y]) ++ greedy L b k (q + 1) = tilesF L a b) := by
              show _ = _
              rw [← hgo.out, ← hq.out, hyt.out, List.append_assoc]; rfl
            go_wp2_with (at_builtin; refine wpList_app1 elInt rfl (.tmp 62) (.tmp 64) rfl w.heap.size _ _ _ [.int .i64 y] 3 rfl how.out rfl rfl (one1 rfl) (by omega) hz ?_; intro v1 w1 how1 hb1 hgr1 hat1; have how1 := hide how1; have hb1 := hide hb1; clear hgr1 hat1)
            go_roundw
            case rel => exact ⟨q + 1, acc ++ [y], k, rfl, by omega, by omega, by omega, by rw [iv_snoc, List.length_append, hn.out]; exact how1.out, hgo2, hbel.out.trans hb1.out⟩
            case measure => simp [intOf]; omega
      · have hres : Hid (acc = tilesF L a b) := by
          show _ = _
          rw [← hgo.out]
          cases k with
          | zero => rw [greedy, List.append_nil]
          | succ k => rw [greedy, if_pos (by omega), List.append_nil]
        have how := hide how
        go_wp2_with fail
        go_ret2
        exact ⟨_, rfl, by rw [← hres.out]; exact own_its hn.out how.out, hbel.out⟩
  · have e : ofB L a b = false := decide_eq_false h
    have el : ofL L a b = [] := by unfold ofL; rw [if_neg (by rw [e]; decide)]
    rw [e, el]
    clear e el
    by_cases hL : 1 ≤ L ∧ L ≤ 48
    · have hI := hide (fun W => ris_yes L W hL.1 hL.2)
      have hP := hide (fun W => rpower L W (by omega))
      rcases (show a < 0 ∨ (0 ≤ a ∧ b < a) ∨ (0 ≤ a ∧ a ≤ b ∧ pw L ≤ b) by omega) with h1 | ⟨h1, h2⟩ | ⟨h1, h2, h3⟩
      all_goals
        clear h hL
        go_enter Try.func19, Try.ntmps19
        go_wp2_with (first
          | (go_at_call 41; refine (hI.out _).mono ?_; rintro e w1 ⟨rfl, rfl⟩)
          | (go_at_call 42; refine (hP.out _).mono ?_; rintro e w1 ⟨rfl, rfl⟩))
        go_ret2
        exact ⟨_, rfl, Its.nil _, Below.refl _ _⟩
    · have hI := hide (fun W => ris_no L W hL)
      clear h hL
      go_enter Try.func19, Try.ntmps19
      go_wp2_with (go_at_call 41; refine (hI.out _).mono ?_; rintro e w1 ⟨rfl, rfl⟩)
      go_ret2
      exact ⟨_, rfl, Its.nil _, Below.refl _ _⟩
end Go.Proofs.Ytbibchdjojmpaaa

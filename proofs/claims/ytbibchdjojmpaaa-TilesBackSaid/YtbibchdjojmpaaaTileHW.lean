/- The walks of layer 5, on: Count, Holds, Right. By the prover of this repo. -/
import Derived.Test.YtbibchdjojmpaaaTileRW
namespace Go.Proofs.Ytbibchdjojmpaaa
open Go.RowKit
open TwigM TileM

theorem sz_nonneg {L : Int} : ∀ T : List Int, (∀ t ∈ T, Nd L t) → 0 ≤ sz L T
  | [], _ => by rw [sz]; omega
  | t :: T, h => by
    have h1 := sz_nonneg T (fun x hx => h x (by simp [hx]))
    have h2 := lo_le_hi (h t (by simp))
    rw [sz]; omega
def countF (L : Int) (l : List Int) : Int × Bool := if allB L l = true then (sz L (joinR L l), true) else (0, false)

set_option maxRecDepth 100000 in
set_option maxHeartbeats 2000000 in
theorem tiles_count (L : Int) (A : Option Addr) (c : Nat) (l : List Int) (w : World) (hr : Rd w A l.length 1 (ic l)) (hA : A = none → l.length = 0) (hl : l.length ≤ 100000) :
    Calls Try.prog 30 #[.int .i64 L, .slice A l.length c] w fun e w' => e = .returned (nb (countF L l)) ∧ Below w.heap.size w w' := by
  have hjoi := hide (tiles_join L A c l w hr hA hl)
  have key : ∃ (T : List Int) (tot : Int), joinL L l = T ∧ countF L l = (tot, allB L l) ∧ (∀ t ∈ T, Nd L t) ∧ sz L T = tot ∧ 0 ≤ tot ∧ tot ≤ 281474976710656 ∧ T.length ≤ l.length := by
    cases hq : allB L l
    · refine ⟨[], 0, by unfold joinL; rw [hq]; rfl, by unfold countF; rw [hq]; rfl, fun t h => (by cases h), rfl, by omega, by omega, Nat.zero_le _⟩
    · obtain ⟨hL1, hL2, hN⟩ := nd_of_all hq
      have h1 := both_sz hL1 hL2 hN
      have h2 := (joinR_canon hL1 hL2 hN).nd
      have h3 := sz_nonneg _ h2
      have h4 := sz_nonneg _ (restT_canon hL1 hL2 hN).nd
      have h5 := pw_le48 hL2
      exact ⟨joinR L l, sz L (joinR L l), by unfold joinL; rw [hq]; rfl, by unfold countF; rw [hq]; rfl, h2, rfl, h3, by omega, joinR_length hL1 hL2 hN⟩
  obtain ⟨T, tot, e1, e2, hTN, hsz, ht0, ht1, hTl⟩ := key
  rw [e1] at hjoi
  rw [e2]
  generalize allB L l = ok at hjoi
  obtain ⟨n, hn⟩ : ∃ n, Hid (l.length = n) := ⟨_, rfl⟩
  rw [hn.out] at hjoi hl hTl ⊢
  have hTN := hide hTN
  have hsz := hide hsz
  clear e1 e2 hr hA hn
  go_enter Try.func30, Try.ntmps30
  go_wp2_with (go_at_call 22; refine hjoi.out.mono ?_; rintro e w1 ⟨v1, rfl, hv1, hb1⟩; obtain ⟨A1, c1, rfl, hA1, hc1, hc2, hr1⟩ := hv1; have hr1 := hide hr1; have hb1 := hide hb1)
  obtain ⟨m, hm⟩ : ∃ m, Hid (T.length = m) := ⟨_, rfl⟩
  rw [hm.out] at hA1 hc1 hTl ⊢
  go_loopw [8, 22] (fun s idx wr => ∃ (i : Nat) (q : Int), s = .int .i64 q ∧ idx = .int .i64 i ∧ i ≤ m ∧ 0 ≤ q ∧ Hid (q + sz L (T.drop i) = tot) ∧ Below w1.heap.size w1 wr) (fun _ idx _ => m - (intOf idx).toNat)
  case atStart => exact ⟨0, 0, rfl, rfl, Nat.zero_le _, Int.le_refl _, by show _ = _; rw [List.drop_zero, Int.zero_add]; exact hsz.out, Below.refl _ _⟩
  case round =>
    clear hjoi hsz
    obtain ⟨i, q, rfl, rfl, hin, hq0, hgo, hbel⟩ := hrel
    by_cases hlt : i < m
    · have hil : i < T.length := by rw [hm.out]; exact hlt
      obtain ⟨b, off, rfl, hbs, hc⟩ := it_at (hr1.out.of_below (Nat.le_refl _) hbel) hil
      rw [List.drop_eq_getElem_cons hil, sz] at hgo
      have hxN := hTN.out T[i] (List.getElem_mem hil)
      have hs2 := sz_nonneg (T.drop (i + 1)) (fun t ht => hTN.out t (List.mem_of_mem_drop ht))
      generalize T[i] = t at *
      have hE := fun W => ends_yes L t W hxN.l1 hxN.l2 hxN.a hxN.b
      change ∀ W : World, Calls _ _ _ _ fun e w' => e = .returned (.tuple #[.int .i64 (lo L t), .int .i64 (hi L t), .bool true]) ∧ ∃ n, w' = W.drewN n at hE
      have hnr := node_range hxN
      have hle := lo_le_hi hxN
      have hpw2 := pw_le48 hxN.l2
      generalize lo L t = p at *
      generalize hi L t = r at *
      have hgo2 : Hid ((q + (r - p + 1)) + sz L (T.drop (i + 1)) = tot) := by show _ = _; have := hgo.out; omega
      have hqt : q + (r - p + 1) ≤ tot := by have := hgo2.out; omega
      clear hs2
      replace hE := hide hE
      have hbel := hide hbel
      clear hgo
      go_wp2_with (go_at_call 28; refine (hE.out _).mono ?_; rintro e w' ⟨rfl, nd, rfl⟩)
      go_roundw
      case rel => exact ⟨i + 1, q + (r - p + 1), rfl, rfl, by omega, by omega, hgo2, below_drewN hbel.out _⟩
      case measure => simp [intOf]; omega
    · have hin : i = m := by omega
      have hres : Hid (q = tot) := by
        show _ = _
        have := hgo.out
        rw [hin, ← hm.out, List.drop_length, sz] at this
        omega
      have hbel := hide hbel
      go_wp2_with fail
      go_ret2
      exact ⟨by rw [hres.out]; rfl, hb1.out.trans (hbel.out.mono hb1.out.size)⟩

set_option maxRecDepth 100000 in
theorem tiles_right (L : Int) (A : Option Addr) (c : Nat) (l : List Int) (w : World) (hr : Rd w A l.length 1 (ic l)) (hl : l.length ≤ 100000) :
    Calls Try.prog 26 #[.int .i64 L, .slice A l.length c] w fun e w' => e = .returned (.bool (allB L l && adj L l)) ∧ Below w.heap.size w w' := by
  have hall := hide (all_c L A c l w hr (by omega))
  cases hq : allB L l
  · rw [hq] at hall
    rw [Bool.false_and]
    clear hq hr
    go_enter Try.func26, Try.ntmps26
    go_wp2_with (go_at_call 44; refine hall.out.mono ?_; rintro e w1 ⟨rfl, rfl⟩)
    go_ret
    exact ⟨rfl, Below.refl _ _⟩
  · obtain ⟨hL1, hL2, hN⟩ := nd_of_all hq
    rw [hq] at hall
    rw [Bool.true_and]
    have hG : Hid (adj L (l.drop 0) = adj L l) := by show _ = _; rw [List.drop_zero]
    generalize adj L l = G at *
    obtain ⟨n, hn⟩ : ∃ n, Hid (l.length = n) := ⟨_, rfl⟩
    have hrh := hide hr
    rw [hn.out] at hall hl ⊢
    have hN := hide hN
    clear hr hq
    go_enter Try.func26, Try.ntmps26
    go_wp2_with (go_at_call 44; refine hall.out.mono ?_; rintro e w1 ⟨rfl, rfl⟩)
    go_loopw [5] (fun idx wr => ∃ (i : Nat), idx = .int .i64 (i + 1) ∧ i ≤ n ∧ Hid (adj L (l.drop i) = G) ∧ Below w.heap.size w wr) (fun idx _ => n + 1 - (intOf idx).toNat)
    case atStart => exact ⟨0, rfl, Nat.zero_le _, hG, Below.refl _ _⟩
    case round =>
      clear hall hG
      obtain ⟨i, rfl, hin, hgo, hbel⟩ := hrel
      by_cases hlt : i + 1 < n
      · have hil : i + 1 < l.length := by rw [hn.out]; exact hlt
        have hil0 : i < l.length := by omega
        obtain ⟨b, off, rfl, hbs, hc⟩ := it_at (hrh.out.of_below (Nat.le_refl _) hbel) hil
        obtain ⟨b', off', e, _, hc0⟩ := it_at (hrh.out.of_below (Nat.le_refl _) hbel) hil0
        injection e with e
        injection e with e1 e2
        subst e1 e2
        rw [List.drop_eq_getElem_cons hil0, List.drop_eq_getElem_cons hil, adj, ← List.drop_eq_getElem_cons hil] at hgo
        have hxN := hN.out l[i] (List.getElem_mem hil0)
        have hyN := hN.out l[i + 1] (List.getElem_mem hil)
        generalize l[i] = x at *
        generalize l[i + 1] = y at *
        have hX := fun W => ends_yes L x W hxN.l1 hxN.l2 hxN.a hxN.b
        have hY := fun W => ends_yes L y W hyN.l1 hyN.l2 hyN.a hyN.b
        change ∀ W : World, Calls _ _ _ _ fun e w' => e = .returned (.tuple #[.int .i64 (lo L x), .int .i64 (hi L x), .bool true]) ∧ ∃ n, w' = W.drewN n at hX
        change ∀ W : World, Calls _ _ _ _ fun e w' => e = .returned (.tuple #[.int .i64 (lo L y), .int .i64 (hi L y), .bool true]) ∧ ∃ n, w' = W.drewN n at hY
        generalize lo L y = p at *
        generalize hi L x = q at *
        replace hX := hide hX
        replace hY := hide hY
        have hbel := hide hbel
        have hci : Hid ((i : Int) + 1 - 1 = i) := by show _ = _; omega
        by_cases hqp : q < p
        · rw [decide_eq_true hqp, Bool.true_and] at hgo
          go_wp2_with (first
            | (go_at_call_of 28 (Value.int .i64 x); refine (hX.out _).mono ?_; rintro e w' ⟨rfl, n1, rfl⟩)
            | (go_at_call 28; refine (hY.out _).mono ?_; rintro e w' ⟨rfl, n2, rfl⟩))
          go_roundw
          case rel => exact ⟨i + 1, rfl, by omega, hgo, below_drewN hbel.out _⟩
          case measure => simp [intOf]; omega
        · rw [decide_eq_false hqp, Bool.false_and] at hgo
          go_wp2_with (first
            | (go_at_call_of 28 (Value.int .i64 x); refine (hX.out _).mono ?_; rintro e w' ⟨rfl, n1, rfl⟩)
            | (go_at_call 28; refine (hY.out _).mono ?_; rintro e w' ⟨rfl, n2, rfl⟩))
          go_ret
          exact ⟨by rw [← hgo.out]; rfl, below_drewN hbel.out _⟩
      · have hres : Hid (true = G) := by
          show _ = _
          rw [← hgo.out]
          have : (l.drop i).length ≤ 1 := by rw [List.length_drop, hn.out]; omega
          match l.drop i, this with
          | [], _ => rfl
          | [t], _ => rfl
        have hbel := hide hbel
        go_wp2_with fail
        go_ret
        exact ⟨by rw [← hres.out]; rfl, hbel.out⟩

/-- Is a value held by one of some nodes: as the program asks. -/
def holdsB (L : Int) (l : List Int) (x : Int) : Bool := (leafF L x).2 && (allB L l && l.any fun t => aboveB t (leafF L x).1)
theorem holds_closure (t y : Int) (p : Nat) (W : World) (ht : t ≤ 9223372036854775807) (hy : y ≤ 9223372036854775807) (hp : W.cell? ⟨p, 0, none⟩ = some (.int .i64 y)) :
    Calls Try.prog 55 #[.int .i64 t, .pointer (some ⟨p, 0, none⟩)] W fun e w' => e = .returned (.bool (aboveB t y)) ∧ W = w' := by
  have h := hide (fun W => above_c t y W ht hy)
  generalize aboveB t y = q at *
  go_enter Try.func55, Try.ntmps55
  go_wp2_with (go_at_call 49; refine (h.out _).mono ?_; rintro e w1 ⟨rfl, rfl⟩)
  go_ret
  exact ⟨rfl, rfl⟩
def idxGo (f : Int → Bool) : List Int → Nat → Int
  | [], _ => -1
  | t :: r, i => if f t = true then i else idxGo f r (i + 1)
theorem idxGo_any (f : Int → Bool) : ∀ (l : List Int) (i : Nat), decide (0 ≤ idxGo f l i) = l.any f
  | [], i => by simp [idxGo]
  | t :: r, i => by
    rw [idxGo, List.any_cons]
    cases h : f t
    · rw [if_neg (by decide), idxGo_any f r (i + 1)]; rfl
    · rw [if_pos rfl]; simp
set_option maxRecDepth 100000 in
theorem index_func (fn : Nat) (cap : Array Value) (f : Int → Bool) (A : Option Addr) (c : Nat) (l : List Int) (w : World) (hr : Rd w A l.length 1 (ic l)) (hl : l.length ≤ 100000)
    (hf : ∀ t ∈ l, Calls Try.prog fn (#[.int .i64 t] ++ cap) w fun e w' => e = .returned (.bool (f t)) ∧ w = w')
    (hin : ∀ args w, (callFunc fn args).run Try.prog w = .ok (.enter fn args) w) :
    Calls Try.prog 67 #[.slice A l.length c, .func (.func fn) #[] cap] w fun e w' => e = .returned (.int .i64 (idxGo f l 0)) ∧ w = w' := by
  have hG : Hid (idxGo f (l.drop 0) 0 = idxGo f l 0) := by show _ = _; rw [List.drop_zero]
  generalize idxGo f l 0 = G at *
  obtain ⟨n, hn⟩ : ∃ n, Hid (l.length = n) := ⟨_, rfl⟩
  have hrh := hide hr
  rw [hn.out] at hl ⊢
  have hf := hide hf
  clear hr
  go_enter Try.func67, Try.ntmps67
  go_wp2_with fail
  go_loop [8] (fun x => ∃ i : Nat, i ≤ n ∧ x = .int .i64 i ∧ Hid (idxGo f (l.drop i) i = G)) (fun x => n - (intOf x).toNat)
  case atStart => exact ⟨0, Nat.zero_le _, rfl, hG⟩
  case round =>
    clear hG
    obtain ⟨i, hi, rfl, hg⟩ := hrel
    by_cases hlt : i < n
    · have hil : i < l.length := by rw [hn.out]; exact hlt
      obtain ⟨b, off, rfl, hb, hc⟩ := it_at hrh.out hil
      rw [List.drop_eq_getElem_cons hil, idxGo] at hg
      have hx := hf.out l[i] (List.getElem_mem hil)
      generalize l[i] = x at *
      cases hq : f x
      · rw [hq, if_neg (by decide)] at hg
        rw [hq] at hx
        replace hx := hide hx
        clear hq
        go_wp2_with (go_at_fn fn; refine hx.out.mono ?_; rintro e w' ⟨rfl, rfl⟩)
        go_round
        case rel => exact ⟨i + 1, by omega, rfl, hg⟩
        case measure => simp [intOf]; omega
      · rw [hq, if_pos rfl] at hg
        rw [hq] at hx
        replace hx := hide hx
        clear hq
        go_wp2_with (go_at_fn fn; refine hx.out.mono ?_; rintro e w' ⟨rfl, rfl⟩)
        go_ret
        exact ⟨by rw [← hg.out]; rfl, rfl⟩
    · have hres : Hid ((-1 : Int) = G) := by
        show _ = _
        rw [← hg.out, show i = n by omega, ← hn.out, List.drop_length]; rfl
      go_wp2_with fail
      go_ret
      exact ⟨by rw [← hres.out]; rfl, rfl⟩
theorem contains_func (fn : Nat) (cap : Array Value) (f : Int → Bool) (A : Option Addr) (c : Nat) (l : List Int) (w : World) (hr : Rd w A l.length 1 (ic l)) (hl : l.length ≤ 100000)
    (hf : ∀ t ∈ l, Calls Try.prog fn (#[.int .i64 t] ++ cap) w fun e w' => e = .returned (.bool (f t)) ∧ w = w')
    (hin : ∀ args w, (callFunc fn args).run Try.prog w = .ok (.enter fn args) w) :
    Calls Try.prog 54 #[.slice A l.length c, .func (.func fn) #[] cap] w fun e w' => e = .returned (.bool (l.any f)) ∧ w = w' := by
  have h := index_func fn cap f A c l w hr hl hf hin
  rw [← idxGo_any f l 0]
  generalize idxGo f l 0 = k at *
  replace h := hide h
  clear hf hr
  go_enter Try.func54, Try.ntmps54
  go_wp2_with (go_at_call 67; refine h.out.mono ?_; rintro e w1 ⟨rfl, rfl⟩)
  go_ret
  exact ⟨rfl, rfl⟩

set_option maxRecDepth 100000 in
set_option maxHeartbeats 1000000 in
theorem tiles_holds (L x : Int) (A : Option Addr) (c : Nat) (l : List Int) (w : World) (hr : Rd w A l.length 1 (ic l)) (hl : l.length ≤ 100000) (hx : x ≤ 9223372036854775807) :
    Calls Try.prog 32 #[.int .i64 L, .slice A l.length c, .int .i64 x] w fun e w' => e = .returned (.bool (holdsB L l x)) ∧ Below w.heap.size w w' := by
  have hA := hide (leaf_c L x w hx)
  have hall := fun W (h : Rd W A l.length 1 (ic l)) => all_c L A c l W h (by omega)
  have hy : (leafF L x).1 ≤ 9223372036854775807 := by
    unfold leafF
    split
    · rename_i h
      have := pw_le48 h.2.1
      show pw L + x ≤ _
      omega
    · decide
  unfold holdsB
  generalize leafF L x = y at *
  obtain ⟨y, yb⟩ := y
  simp only at hy ⊢
  have hr1 := hr.alloc (.cells #[.int .i64 y] 3)
  have hb0 := hide (balloc0 w (.cells #[.int .i64 y] 3))
  have hall := hall _ hr1
  cases yb
  · rw [Bool.false_and]
    clear hall hr1 hr
    go_enter Try.func32, Try.ntmps32
    go_wp2_with (go_at_call 39; refine hA.out.mono ?_; rintro e w1 ⟨rfl, rfl⟩)
    go_ret
    exact ⟨rfl, hb0.out⟩
  · cases hq : allB L l
    · rw [hq] at hall
      rw [Bool.true_and, Bool.false_and]
      replace hall := hide hall
      clear hr1 hr hq
      go_enter Try.func32, Try.ntmps32
      go_wp2_with (first
        | (go_at_call 39; refine hA.out.mono ?_; rintro e w1 ⟨rfl, rfl⟩)
        | (go_at_call 44; refine hall.out.mono ?_; rintro e w1 ⟨rfl, rfl⟩))
      go_ret
      exact ⟨rfl, hb0.out⟩
    · obtain ⟨hL1, hL2, hN⟩ := nd_of_all hq
      rw [hq] at hall
      rw [Bool.true_and, Bool.true_and]
      have hc := (Blk.made w 3 #[.int .i64 y]).cell 0
      simp only [List.getElem?_toArray, List.getElem?_cons_zero] at hc
      have hcon := contains_func 55 #[.pointer (some ⟨w.heap.size, 0, none⟩)] (fun t => aboveB t y) A c l _ hr1 hl
        (fun t ht => holds_closure t y w.heap.size _ (by have := (hN t ht).b; have := pw_le48 hL2; omega) hy hc) (enters_of Try.func55 (by kernel_rfl) rfl)
      replace hall := hide hall
      generalize (l.any fun t => aboveB t y) = r at *
      replace hcon := hide hcon
      clear hr1 hr hq hc
      go_enter Try.func32, Try.ntmps32
      go_wp2_with (first
        | (go_at_call 39; refine hA.out.mono ?_; rintro e w1 ⟨rfl, rfl⟩)
        | (go_at_call 44; refine hall.out.mono ?_; rintro e w1 ⟨rfl, rfl⟩)
        | (go_at_call 54; refine hcon.out.mono ?_; rintro e w1 ⟨rfl, rfl⟩))
      go_ret
      exact ⟨rfl, hb0.out⟩
end Go.Proofs.Ytbibchdjojmpaaa

/- The law LinePrints, walked. By the prover of this repo. -/
import Derived.Test.YtcpakoobgcdekaaDoorLineU
import Derived.Test.YtcpakoobgcdekaaDoorFrame
namespace Go.Proofs.YtcpakoobgcdekaaDoor
open Go.RowKit

theorem its_of {w : World} {A : Option Addr} {n c : Nat} {l : List Int} (hl : l.length = n) (hnc : n ≤ c) (hc : c ≤ maxLen) (hr : Rd w A n 1 (fun i => .int .i64 (l.getD i 0))) : Its w (.slice A l.length c) l := by
  subst hl
  refine ⟨A, c, rfl, fun hA => ?_, hnc, hc, hr⟩
  rcases Nat.eq_zero_or_pos l.length with h | h
  · exact h
  · obtain ⟨b, off, e, _⟩ := hr h
    rw [hA] at e
    cases e
theorem wf_le {l : List Int} (h : ∀ z ∈ l, (Lit.int .i64 z).wf = true) : ∀ z ∈ l, z ≤ 9223372036854775807 := fun z hz => (bounds_i64 (h z hz)).2
set_option maxRecDepth 100000 in
set_option maxHeartbeats 4000000 in
theorem linePrints_walk (o : Int) (x y : ByteArray) (A : Option Addr) (n c : Nat) (l : List Int) (o' : Int) (x' y' : ByteArray) (B : Option Addr) (n' d : Nat) (m : List Int) (op : Int) (w : World) (hW : Wz w)
    (hl : l.length = n) (hnc : n ≤ c) (hc : c ≤ maxLen) (hr : Rd w A n 1 (fun i => .int .i64 (l.getD i 0))) (hwl : ∀ z ∈ l, (Lit.int .i64 z).wf = true)
    (hm : m.length = n') (hnd : n' ≤ d) (hd : d ≤ maxLen) (hs : Rd w B n' 1 (fun i => .int .i64 (m.getD i 0))) (_hwm : ∀ z ∈ m, (Lit.int .i64 z).wf = true)
    (_hop : -9223372036854775808 ≤ op ∧ op ≤ 9223372036854775807) :
    Calls Tryd.prog 9 #[cmdV o x y (.slice A n c), cmdV o' x' y' (.slice B n' d), .int .i64 op] w fun e w' => e = .returned (.bool true) ∧ Below w.heap.size w w' := by
  have hI := its_of hl hnc hc hr
  have hJ := its_of hm hnd hd hs
  have hlb := wf_le hwl
  subst hl hm
  have hb0 := balloc (balloc0 w (.cells #[.int .i64 o, .string x, .string y, .slice A l.length c] 54)) (.cells #[.int .i64 o', .string x', .string y', .slice B m.length d] 54)
  have hB1 : Blk ((w.alloc (.cells #[.int .i64 o, .string x, .string y, .slice A l.length c] 54)).alloc (.cells #[.int .i64 o', .string x', .string y', .slice B m.length d] 54)) w.heap.size 54 #[.int .i64 o, .string x, .string y, .slice A l.length c] := (Blk.made w _ _).alloc _
  have hB2 : Blk ((w.alloc (.cells #[.int .i64 o, .string x, .string y, .slice A l.length c] 54)).alloc (.cells #[.int .i64 o', .string x', .string y', .slice B m.length d] 54)) (w.heap.size + 1) 54 #[.int .i64 o', .string x', .string y', .slice B m.length d] := Blk.made_at _ _ _ (by simp)
  generalize hW0 : (w.alloc (.cells #[.int .i64 o, .string x, .string y, .slice A l.length c] 54)).alloc (.cells #[.int .i64 o', .string x', .string y', .slice B m.length d] 54) = W0 at *
  have hz0 : W0.heap.size = w.heap.size + 2 := by rw [← hW0]; simp
  have hWW := hW.kept hb0
  have hII := hI.kept hb0
  have hJJ := hJ.kept hb0
  -- what holds in each later world
  have key := hide (fun (W : World) (h : Below W0.heap.size W0 W) => (⟨(hB1.kept h), (hB2.kept h), (hWW.kept h), (hII.kept h), (hJJ.kept h)⟩ : Blk W w.heap.size 54 #[.int .i64 o, .string x, .string y, .slice A l.length c] ∧ Blk W (w.heap.size + 1) 54 #[.int .i64 o', .string x', .string y', .slice B m.length d] ∧ Wz W ∧ Its W (.slice A l.length c) l ∧ Its W (.slice B m.length d) m))
  have hf1 := hide (fun (W : World) => law35_few (o, x, y, l) A c W)
  have hf2 := hide (fun (W : World) => law35_few (o', x', y', m) B d W)
  replace hb0 := hide hb0
  clear hW hI hJ hB1 hB2 hWW hII hJJ hr hs hwl
  by_cases hfw : fewF (o, x, y, l) = true ∧ fewF (o', x', y', m) = true
  · obtain ⟨e1, e2⟩ := hfw
    rw [e1] at hf1
    rw [e2] at hf2
    have hl100 : l.length ≤ 100 := by
      unfold fewF at e1
      simp only [Bool.and_eq_true, decide_eq_true_eq] at e1
      exact e1.1
    have hpr := hide (fun (W : World) (hw : Wz W) (hi : Its W (.slice A l.length c) l) => line_print o x y l (.slice A l.length c) W hw hi (by omega) hlb)
    have hrp := hide (fun (W : World) (hi : Its W (.slice A l.length c) l) => ref35_print o x y l (.slice A l.length c) W hi (by omega) hlb)
    have hrt := hide (fun (W : World) (hi : Its W (.slice A l.length c) l) => line_right o x y l (.slice A l.length c) W hi (by omega))
    have hrr := hide (fun (W : World) (hi : Its W (.slice A l.length c) l) => ref35_right o x y l (.slice A l.length c) W hi (by omega))
    have hsm := hide (fun (W : World) (hi : Its W (.slice A l.length c) l) (hj : Its W (.slice B m.length d) m) => show Calls Tryd.prog 43 #[cmdV o x y (.slice A l.length c), cmdV o' x' y' (.slice B m.length d)] W (fun e w' => e = .returned (.bool (sameF (o, x, y, l) (o', x', y', m))) ∧ Below W.heap.size W w') from line_same (o, x, y, l) (o', x', y', m) (.slice A l.length c) (.slice B m.length d) W hi hj)
    have hsr := hide (fun (W : World) (hi : Its W (.slice A l.length c) l) (hj : Its W (.slice B m.length d) m) => show Calls Tryd.prog 41 #[cmdV o x y (.slice A l.length c), cmdV o' x' y' (.slice B m.length d)] W (fun e w' => e = .returned (.bool (sameF (o, x, y, l) (o', x', y', m))) ∧ Below W.heap.size W w') from ref35_sameG (o, x, y, l) (o', x', y', m) (.slice A l.length c) (.slice B m.length d) W hi hj)
    have hss := hide (fun (W : World) (hi : Its W (.slice A l.length c) l) => show Calls Tryd.prog 43 #[cmdV o x y (.slice A l.length c), cmdV o x y (.slice A l.length c)] W (fun e w' => e = .returned (.bool (sameF (o, x, y, l) (o, x, y, l))) ∧ Below W.heap.size W w') from line_same (o, x, y, l) (o, x, y, l) (.slice A l.length c) (.slice A l.length c) W hi hi)
    rw [show sameF (o, x, y, l) (o, x, y, l) = true from decide_eq_true rfl] at hss
    generalize printF (o, x, y, l) = q at *
    obtain ⟨qt, qe⟩ := q
    generalize cmdR o x y l = R at *
    generalize sameF (o, x, y, l) (o', x', y', m) = Q at *
    clear e1 e2
    obtain ⟨k1, k2, k3, k4, k5⟩ := key.out W0 (Below.refl _ _)
    have a0 := k1.cell 0
    have a1 := k1.cell 1
    have a2 := k1.cell 2
    have a3 := k1.cell 3
    have b0 := k2.cell 0
    have b1 := k2.cell 1
    have b2 := k2.cell 2
    have b3 := k2.cell 3
    simp only [List.getElem?_toArray, List.getElem?_cons_zero, List.getElem?_cons_succ] at a0 a1 a2 a3 b0 b1 b2 b3
    clear k1 k2 k3 k4 k5
    go_enter Tryd.func9, Tryd.ntmps9
    go_wp2_with fail
    refine (hf1.out _).mono ?_
    rintro e w1 ⟨rfl, hb1⟩
    have k1 := hide hb1
    clear a0 a1 a2 a3 b0 b1 b2 b3
    obtain ⟨p1, p2, p3, p4, p5⟩ := key.out w1 k1.out
    have a0 := p1.cell 0
    have a1 := p1.cell 1
    have a2 := p1.cell 2
    have a3 := p1.cell 3
    have b0 := p2.cell 0
    have b1 := p2.cell 1
    have b2 := p2.cell 2
    have b3 := p2.cell 3
    simp only [List.getElem?_toArray, List.getElem?_cons_zero, List.getElem?_cons_succ] at a0 a1 a2 a3 b0 b1 b2 b3
    replace p1 := hide p1
    replace p2 := hide p2
    replace p3 := hide p3
    replace p4 := hide p4
    replace p5 := hide p5
    clear hb1
    go_wp2_with fail
    refine (hf2.out _).mono ?_
    rintro e w2 ⟨rfl, hb2⟩
    have k2 := hide (bthen k1.out hb2)
    clear a0 a1 a2 a3 b0 b1 b2 b3 p1 p2 p3 p4 p5
    obtain ⟨p1, p2, p3, p4, p5⟩ := key.out w2 k2.out
    have a0 := p1.cell 0
    have a1 := p1.cell 1
    have a2 := p1.cell 2
    have a3 := p1.cell 3
    have b0 := p2.cell 0
    have b1 := p2.cell 1
    have b2 := p2.cell 2
    have b3 := p2.cell 3
    simp only [List.getElem?_toArray, List.getElem?_cons_zero, List.getElem?_cons_succ] at a0 a1 a2 a3 b0 b1 b2 b3
    replace p1 := hide p1
    replace p2 := hide p2
    replace p3 := hide p3
    replace p4 := hide p4
    replace p5 := hide p5
    clear hb2
    go_wp2_with fail
    refine (hpr.out _ p3.out p4.out).mono ?_
    rintro e w3 ⟨rfl, hb3⟩
    have k3 := hide (bthen k2.out hb3)
    clear a0 a1 a2 a3 b0 b1 b2 b3 p1 p2 p3 p4 p5
    obtain ⟨p1, p2, p3, p4, p5⟩ := key.out w3 k3.out
    have a0 := p1.cell 0
    have a1 := p1.cell 1
    have a2 := p1.cell 2
    have a3 := p1.cell 3
    have b0 := p2.cell 0
    have b1 := p2.cell 1
    have b2 := p2.cell 2
    have b3 := p2.cell 3
    simp only [List.getElem?_toArray, List.getElem?_cons_zero, List.getElem?_cons_succ] at a0 a1 a2 a3 b0 b1 b2 b3
    replace p1 := hide p1
    replace p2 := hide p2
    replace p3 := hide p3
    replace p4 := hide p4
    replace p5 := hide p5
    clear hb3
    go_wp2_with fail
    refine (law35_made o x y A l.length c _).mono ?_
    rintro e w4 ⟨rfl, hb4⟩
    have k4 := hide (bthen k3.out hb4)
    clear a0 a1 a2 a3 b0 b1 b2 b3 p1 p2 p3 p4 p5
    obtain ⟨p1, p2, p3, p4, p5⟩ := key.out w4 k4.out
    have a0 := p1.cell 0
    have a1 := p1.cell 1
    have a2 := p1.cell 2
    have a3 := p1.cell 3
    have b0 := p2.cell 0
    have b1 := p2.cell 1
    have b2 := p2.cell 2
    have b3 := p2.cell 3
    simp only [List.getElem?_toArray, List.getElem?_cons_zero, List.getElem?_cons_succ] at a0 a1 a2 a3 b0 b1 b2 b3
    replace p1 := hide p1
    replace p2 := hide p2
    replace p3 := hide p3
    replace p4 := hide p4
    replace p5 := hide p5
    clear hb4
    go_wp2_with fail
    refine (hrp.out _ p4.out).mono ?_
    rintro e w5 ⟨rfl, hb5⟩
    have k5 := hide (bthen k4.out hb5)
    clear a0 a1 a2 a3 b0 b1 b2 b3 p1 p2 p3 p4 p5
    obtain ⟨p1, p2, p3, p4, p5⟩ := key.out w5 k5.out
    have a0 := p1.cell 0
    have a1 := p1.cell 1
    have a2 := p1.cell 2
    have a3 := p1.cell 3
    have b0 := p2.cell 0
    have b1 := p2.cell 1
    have b2 := p2.cell 2
    have b3 := p2.cell 3
    simp only [List.getElem?_toArray, List.getElem?_cons_zero, List.getElem?_cons_succ] at a0 a1 a2 a3 b0 b1 b2 b3
    replace p1 := hide p1
    replace p2 := hide p2
    replace p3 := hide p3
    replace p4 := hide p4
    replace p5 := hide p5
    clear hb5
    have hlz := k5.out.size
    have l1 : w.heap.size < w5.heap.size := by omega
    have l2 : w.heap.size + 1 < w5.heap.size := by omega
    have fw := hide (fun (e : Later w5.heap.size w5) => key.out e.val (bthen k5.out e.property))
    have m1 := hide (fun (e : Later w5.heap.size w5) => line_name x e.val)
    have m2 := hide (fun (e : Later w5.heap.size w5) => ref35_name x e.val)
    have m3 := hide (fun (e : Later w5.heap.size w5) => line_word op e.val (fw.out e).2.2.1)
    have m4 := hide (fun (e : Later w5.heap.size w5) => ref35_word op e.val)
    have m5 := hide (fun (e : Later w5.heap.size w5) => hrt.out e.val (fw.out e).2.2.2.1)
    have m6 := hide (fun (e : Later w5.heap.size w5) => law35_made o x y A l.length c e.val)
    have m7 := hide (fun (e : Later w5.heap.size w5) => hrr.out e.val (fw.out e).2.2.2.1)
    have m8 := hide (fun (e : Later w5.heap.size w5) => hsm.out e.val (fw.out e).2.2.2.1 (fw.out e).2.2.2.2)
    have m9 := hide (fun (e : Later w5.heap.size w5) => law35_made o' x' y' B m.length d e.val)
    have m10 := hide (fun (e : Later w5.heap.size w5) => hsr.out e.val (fw.out e).2.2.2.1 (fw.out e).2.2.2.2)
    have m11 := hide (fun (e : Later w5.heap.size w5) => hss.out e.val (fw.out e).2.2.2.1)
    have m12 := hide (fun (e : Later w5.heap.size w5) => alive35 e.val (fw.out e).2.2.1)
    generalize nameF x.data.toList = N at *
    generalize wordF op = T at *
    have hNN : (N == N) = true := by simp
    have hTT : (T.toList == T.toList) = true := by simp
    have hRR : (R == R) = true := by simp
    have hqq : (qt.toList == qt.toList) = true := by simp
    have hee : (qe == qe) = true := by simp
    have hQQ : (Q == Q) = true := by simp
    clear key hf1 hf2 hpr hrp hrt hrr hsm hsr hss fw p1 p2 p3 p4 p5 hlb
    go_wp2_with fail
    refine wp_region_later (by kernel_rfl) (by kernel_rfl) ?_
    repeat (first
      | go_big_quiet_step (first
        | (go_at_call 47; (with_reducible exact calls_later_same (m1.out _)))
        | (go_at_call 48; (with_reducible exact calls_later_same (m2.out _)))
        | (go_at_call 49; (with_reducible exact calls_later_same (m3.out _)))
        | (go_at_call 50; (with_reducible exact calls_later (m4.out _)))
        | (go_at_call 51; (with_reducible exact calls_later (m5.out _)))
        | (go_at_call 42; (with_reducible exact calls_later (m6.out _)))
        | (go_at_call 52; (with_reducible exact calls_later (m7.out _)))
        | (go_at_call 43; (with_reducible exact calls_later (m8.out _)))
        | (go_at_call 42; (with_reducible exact calls_later (m9.out _)))
        | (go_at_call 41; (with_reducible exact calls_later (m10.out _)))
        | (go_at_call 43; (with_reducible exact calls_later (m11.out _)))
        | (go_at_call 38; (with_reducible exact calls_later (m12.out _)))
        | exact rfl)
      | rw [hNN] | rw [hTT] | rw [hRR] | rw [hqq] | rw [hee] | rw [hQQ])
    refine wpQuiet_nil ?_
    rintro _ ⟨e4, rfl⟩
    have k6 := bthen hb0.out ((bthen k5.out e4.property).mono (Nat.le_refl _))
    generalize e4.val = w10 at k6 ⊢
    go_wp2_with fail
    go_ret
    exact ⟨rfl, k6⟩
  · have hal := hide (fun (W : World) (h : Below W0.heap.size W0 W) => alive35 W (key.out W h).2.2.1)
    obtain ⟨p1, p2, p3, p4, p5⟩ := key.out W0 (Below.refl _ _)
    have a0 := p1.cell 0
    have a1 := p1.cell 1
    have a2 := p1.cell 2
    have a3 := p1.cell 3
    have b0 := p2.cell 0
    have b1 := p2.cell 1
    have b2 := p2.cell 2
    have b3 := p2.cell 3
    simp only [List.getElem?_toArray, List.getElem?_cons_zero, List.getElem?_cons_succ] at a0 a1 a2 a3 b0 b1 b2 b3
    clear p1 p2 p3 p4 p5
    cases e1 : fewF (o, x, y, l)
    · rw [e1] at hf1
      clear e1 hfw
      go_enter Tryd.func9, Tryd.ntmps9
      go_wp2_with fail
      refine (hf1.out _).mono ?_
      rintro e w1 ⟨rfl, hb1⟩
      have k1 := hide hb1
      clear hb1
      go_wp2_with fail
      refine (hal.out _ k1.out).mono ?_
      rintro e w3 ⟨rfl, hb3⟩
      have k3 := hide (bthen k1.out hb3)
      clear hb3
      go_wp2_with fail
      go_ret
      exact ⟨rfl, bthen hb0.out k3.out⟩
    · have e2 : fewF (o', x', y', m) = false := by
        cases h : fewF (o', x', y', m)
        · rfl
        · exact absurd ⟨e1, h⟩ hfw
      rw [e1] at hf1
      rw [e2] at hf2
      clear e1 e2 hfw
      go_enter Tryd.func9, Tryd.ntmps9
      go_wp2_with fail
      refine (hf1.out _).mono ?_
      rintro e w1 ⟨rfl, hb1⟩
      have k1 := hide hb1
      clear a0 a1 a2 a3 b0 b1 b2 b3
      obtain ⟨p1, p2, p3, p4, p5⟩ := key.out w1 k1.out
      have a0 := p1.cell 0
      have a1 := p1.cell 1
      have a2 := p1.cell 2
      have a3 := p1.cell 3
      have b0 := p2.cell 0
      have b1 := p2.cell 1
      have b2 := p2.cell 2
      have b3 := p2.cell 3
      simp only [List.getElem?_toArray, List.getElem?_cons_zero, List.getElem?_cons_succ] at a0 a1 a2 a3 b0 b1 b2 b3
      replace p1 := hide p1
      replace p2 := hide p2
      replace p3 := hide p3
      replace p4 := hide p4
      replace p5 := hide p5
      clear hb1
      go_wp2_with fail
      refine (hf2.out _).mono ?_
      rintro e w2 ⟨rfl, hb2⟩
      have k2 := hide (bthen k1.out hb2)
      clear hb2
      go_wp2_with fail
      refine (hal.out _ k2.out).mono ?_
      rintro e w3 ⟨rfl, hb3⟩
      have k3 := hide (bthen k2.out hb3)
      clear hb3
      go_wp2_with fail
      go_ret
      exact ⟨rfl, bthen hb0.out k3.out⟩
end Go.Proofs.YtcpakoobgcdekaaDoor

/- Layer 10: whether two lists of readings are the same; a clone; a bag's readings. By the prover of this repo. -/
import Derived.Test.YtkjihbaiofocgaaBagB
namespace Go.Proofs.Ytkjihbaiofocgaa
open Go.RowKit
open TwigM BagM

set_option maxRecDepth 100000 in
set_option maxHeartbeats 1000000 in
theorem eql_c (A B : Option Addr) (c d : Nat) (l m : List Rg) (w : World) (hr : Rd w A l.length 2 (ndc l)) (hs : Rd w B m.length 2 (ndc m)) (hl : l.length ≤ 1000000) (hm : m.length ≤ 1000000) :
    Calls Try.prog 45 #[.slice A l.length c, .slice B m.length d] w fun e w' => e = .returned (.bool (decide (l = m))) ∧ Below w.heap.size w w' := by
  by_cases hlm : l.length = m.length
  · obtain ⟨n, hn⟩ : ∃ n, Hid (l.length = n) := ⟨_, rfl⟩
    rw [hn.out] at hl
    have hrn : Hid (Rd w A l.length 2 (ndc l)) := hr
    have hsn : Hid (Rd w B m.length 2 (ndc m)) := hs
    have hmn : Hid (m.length = n) := by show _ = _; rw [← hlm, hn.out]
    have h0 : Hid (decide (l = m) = decide (l.drop 0 = m.drop 0)) := rfl
    generalize decide (l = m) = G at *
    rw [hn.out, hmn.out]
    clear hr hs hlm hm
    go_enter Try.func45, Try.ntmps45
    go_wp2_with fail
    go_loopw [13] (fun k wr => ∃ (i : Nat), i ≤ n ∧ k = .int .i64 i ∧ Hid (G = decide (l.drop i = m.drop i)) ∧ Below w.heap.size w wr) (fun k _ => n - (intOf k).toNat)
    case atStart => exact ⟨0, by omega, rfl, h0.out, Below.refl _ _⟩
    case round =>
      obtain ⟨i, hi, rfl, hgo, hbel⟩ := hrel
      by_cases hlt : i < n
      · have hil : i < l.length := by rw [hn.out]; exact hlt
        have him : i < m.length := by rw [hmn.out]; exact hlt
        obtain ⟨b, off, rfl, hb, c0, c1⟩ := rd_at (hrn.out.of_below (Nat.le_refl _) hbel) hil
        obtain ⟨b', off', rfl, hb', d0, d1⟩ := rd_at (hsn.out.of_below (Nat.le_refl _) hbel) him
        rw [List.drop_eq_getElem_cons hil, List.drop_eq_getElem_cons him] at hgo
        generalize l[i] = p at *
        generalize m[i] = q at *
        obtain ⟨x, y⟩ := p
        obtain ⟨x', y'⟩ := q
        simp only at c0 c1 d0 d1
        by_cases hx : x = x' ∧ y = y'
        · obtain ⟨rfl, rfl⟩ := hx
          have hgo2 : Hid (G = decide (l.drop (i + 1) = m.drop (i + 1))) := by show _ = _; rw [hgo.out]; simp
          go_wp2_with fail
          go_quiet (fail)
          go_wp2_with fail
          go_roundw
          case rel => exact ⟨i + 1, by omega, by go_num, hgo2, below_drewN hbel _⟩
          case measure => simp [intOf]; omega
        · have hres : Hid (false = G) := by show _ = _; rw [hgo.out]; symm; rw [decide_eq_false_iff_not]; intro k; apply hx; injection k with k1 k2; injection k1 with k3 k4; exact ⟨k3, k4⟩
          by_cases hx1 : x = x'
          · subst hx1
            have hne : (y == y') = false := by simp; exact fun k => hx ⟨rfl, k⟩
            clear hx
            go_wp2_with fail
            go_quiet (fail)
            go_wp2_with fail
            go_ret
            exact ⟨by rw [← hres.out]; rfl, below_drewN hbel _⟩
          · have hne : (x == x') = false := by simpa using hx1
            clear hx hx1
            go_wp2_with fail
            go_quiet (fail)
            go_wp2_with fail
            go_ret
            exact ⟨by rw [← hres.out]; rfl, below_drewN hbel _⟩
      · have hres : Hid (true = G) := by
          show _ = _
          rw [hgo.out, List.drop_of_length_le (by rw [hn.out]; omega), List.drop_of_length_le (by rw [hmn.out]; omega)]
          simp
        go_wp2_with fail
        go_ret
        exact ⟨by rw [← hres.out]; rfl, hbel⟩
  · rw [decide_eq_false (fun k => hlm (by rw [k]))]
    have hne : ((l.length : Int) != (m.length : Int)) = true := by simp; omega
    generalize l.length = n at *
    generalize m.length = k at *
    clear hlm
    go_enter Try.func45, Try.ntmps45
    go_wp2_with fail
    go_ret
    exact ⟨rfl, Below.refl _ _⟩

set_option maxRecDepth 100000 in
set_option maxHeartbeats 1000000 in
theorem same_items (A B : Option Addr) (c d : Nat) (l m : List Rg) (w : World) (hr : Rd w A l.length 2 (ndc l)) (hs : Rd w B m.length 2 (ndc m)) (hl : l.length ≤ 1000000) (hm : m.length ≤ 1000000) :
    Calls Try.prog 34 #[.slice A l.length c, .slice B m.length d] w fun e w' => e = .returned (.bool (decide (l = m))) ∧ Below w.heap.size w w' := by
  by_cases hlm : l.length = m.length
  · obtain ⟨n, hn⟩ : ∃ n, Hid (l.length = n) := ⟨_, rfl⟩
    rw [hn.out] at hl
    have hrn : Hid (Rd w A l.length 2 (ndc l)) := hr
    have hsn : Hid (Rd w B m.length 2 (ndc m)) := hs
    have hmn : Hid (m.length = n) := by show _ = _; rw [← hlm, hn.out]
    have h0 : Hid (decide (l = m) = decide (l.drop 0 = m.drop 0)) := rfl
    generalize decide (l = m) = G at *
    rw [hn.out, hmn.out]
    clear hr hs hlm hm
    go_enter Try.func34, Try.ntmps34
    go_wp2_with fail
    go_loopw [5] (fun k wr => ∃ (i : Nat), i ≤ n ∧ k = .int .i64 i ∧ Hid (G = decide (l.drop i = m.drop i)) ∧ Below w.heap.size w wr) (fun k _ => n - (intOf k).toNat)
    case atStart => exact ⟨0, by omega, rfl, h0.out, Below.refl _ _⟩
    case round =>
      obtain ⟨i, hi, rfl, hgo, hbel⟩ := hrel
      by_cases hlt : i < n
      · have hil : i < l.length := by rw [hn.out]; exact hlt
        have him : i < m.length := by rw [hmn.out]; exact hlt
        obtain ⟨b, off, rfl, hb, c0, c1⟩ := rd_at (hrn.out.of_below (Nat.le_refl _) hbel) hil
        obtain ⟨b', off', rfl, hb', d0, d1⟩ := rd_at (hsn.out.of_below (Nat.le_refl _) hbel) him
        rw [List.drop_eq_getElem_cons hil, List.drop_eq_getElem_cons him] at hgo
        generalize l[i] = p at *
        generalize m[i] = q at *
        obtain ⟨x, y⟩ := p
        obtain ⟨x', y'⟩ := q
        simp only at c0 c1 d0 d1
        by_cases hx : x = x' ∧ y = y'
        · obtain ⟨rfl, rfl⟩ := hx
          have hgo2 : Hid (G = decide (l.drop (i + 1) = m.drop (i + 1))) := by show _ = _; rw [hgo.out]; simp
          go_wp2_with fail
          go_quiet (fail)
          go_wp2_with fail
          go_roundw
          case rel => exact ⟨i + 1, by omega, by go_num, hgo2, below_drewN hbel _⟩
          case measure => simp [intOf]; omega
        · have hres : Hid (false = G) := by show _ = _; rw [hgo.out]; symm; rw [decide_eq_false_iff_not]; intro k; apply hx; injection k with k1 k2; injection k1 with k3 k4; exact ⟨k3, k4⟩
          by_cases hx1 : x = x'
          · subst hx1
            have hne : (y == y') = false := by simp; exact fun k => hx ⟨rfl, k⟩
            clear hx
            go_wp2_with fail
            go_quiet (fail)
            go_wp2_with fail
            go_ret
            exact ⟨by rw [← hres.out]; rfl, below_drewN hbel _⟩
          · have hne : (x == x') = false := by simpa using hx1
            clear hx hx1
            go_wp2_with fail
            go_quiet (fail)
            go_wp2_with fail
            go_ret
            exact ⟨by rw [← hres.out]; rfl, below_drewN hbel _⟩
      · have hres : Hid (true = G) := by
          show _ = _
          rw [hgo.out, List.drop_of_length_le (by rw [hn.out]; omega), List.drop_of_length_le (by rw [hmn.out]; omega)]
          simp
        go_wp2_with fail
        go_ret
        exact ⟨by rw [← hres.out]; rfl, hbel⟩
  · rw [decide_eq_false (fun k => hlm (by rw [k]))]
    have hne : ((l.length : Int) != (m.length : Int)) = true := by simp; omega
    generalize l.length = n at *
    generalize m.length = k at *
    clear hlm
    go_enter Try.func34, Try.ntmps34
    go_wp2_with fail
    go_ret
    exact ⟨rfl, Below.refl _ _⟩

set_option maxRecDepth 100000 in
theorem clone_c (A : Option Addr) (c : Nat) (l : List Rg) (w : World) (hr : Rd w A l.length 2 (ndc l)) (hA : A = none → l.length = 0) (hl : l.length ≤ 1000000) :
    Calls Try.prog 46 #[.slice A l.length c] w fun e w' => ∃ v, e = .returned v ∧ w'.ownsRow w.heap.size 31 2 v l.length (ndv l) ∧ Below w.heap.size w w' := by
  cases A with
  | none =>
    have h0 := hA rfl
    have hn : l = [] := List.eq_nil_of_length_eq_zero h0
    subst hn
    have he := fun V => Lib.run_eql_slice_nil (P := Try.prog) V 22 31 none 0 c 0 0 Try.underlying22
    go_enter Try.func46, Try.ntmps46
    go_wp2_with fail
    go_ret
    exact ⟨_, rfl, World.ownsRow_nil _ _ _ _, Below.refl _ _⟩
  | some ad =>
    have hlen : Hid (l.length = l.length) := rfl
    have hrh := hide hr
    have hrange := hide (ndv_range l)
    have hone := hide (ndc_one l)
    obtain ⟨n, hn⟩ : ∃ n, l.length = n := ⟨_, rfl⟩
    rw [hn] at hl hrange
    have hrn : Hid (Rd w (some ad) n 2 (ndc l)) := by have := hr; rwa [hn] at this
    have hnh := hide hn
    rw [hn]
    clear hr hA hn hlen hrh
    have he := fun V => Lib.run_eql_slice_nil (P := Try.prog) V 22 31 (some ad) n c 0 0 Try.underlying22
    go_enter Try.func46, Try.ntmps46
    go_wp2_with (at_builtin; refine wpList_app elRg rfl (.tmp 5) (.tmp 6) rfl w.heap.size _ 0 [] rfl (World.ownsRow_lit w #[] 0 (Nat.le_refl _) (by unfold maxLen; omega) rfl) (some ad) n c (ndc l) rfl (hrn.out.alloc _) (fun i _ => hone.out i) (by omega) (by simp) (fun k => by cases k) ?_; intro v1 w1 how1 hb1 hgr1 hat1)
    go_ret
    have how2 : w1.ownsRow w.heap.size 31 2 v1 n (ndv l) := by
      rw [hrange.out, Nat.zero_add, List.nil_append] at how1
      exact how1
    exact ⟨_, rfl, how2, (balloc0 _ _).trans hb1⟩

theorem items_c (g : Nat) (L t : Int) (l : List Rg) (v : Value) (w : World) (h : BagT w g L t l v) (hl : l.length ≤ 1000000) :
    Calls Try.prog 33 #[.pointer (some ⟨g, 0, none⟩)] w fun e w' => ∃ u, e = .returned u ∧ w'.ownsRow w.heap.size 31 2 u l.length (ndv l) ∧ Below w.heap.size w w' := by
  obtain ⟨c0, c1, c2, f1, f2, hg⟩ := bag_cells h
  obtain ⟨A, c, rfl, hA, _, _, hr⟩ := h.nds
  have hc := hide (clone_c A c l w hr hA hl)
  clear h hr hA hl
  generalize l.length = n at *
  generalize ndv l = xs at *
  go_enter Try.func33, Try.ntmps33
  go_wp2_with fail
  refine hc.out.mono ?_
  rintro e w1 ⟨u, rfl, how, hb1⟩
  replace how := hide how
  go_wp2_with fail
  go_ret
  exact ⟨_, rfl, how.out, hb1⟩
theorem same_n (l m : List Rg) (W : World) (u v : Value) (hl : l.length ≤ 1000000) (hm : m.length ≤ 1000000) (hu : Nds W u l) (hv : Nds W v m) : Calls Try.prog 34 #[u, v] W fun e w' => e = .returned (.bool (decide (l = m))) ∧ Below W.heap.size W w' := by
  obtain ⟨A1, c1, rfl, _, _, _, hr1⟩ := hu
  obtain ⟨A2, c2, rfl, _, _, _, hr2⟩ := hv
  exact same_items A1 A2 c1 c2 l m W hr1 hr2 hl hm
theorem eql_n (l m : List Rg) (W : World) (u v : Value) (hl : l.length ≤ 1000000) (hm : m.length ≤ 1000000) (hu : Nds W u l) (hv : Nds W v m) : Calls Try.prog 45 #[u, v] W fun e w' => e = .returned (.bool (decide (l = m))) ∧ Below W.heap.size W w' := by
  obtain ⟨A1, c1, rfl, _, _, _, hr1⟩ := hu
  obtain ⟨A2, c2, rfl, _, _, _, hr2⟩ := hv
  exact eql_c A1 A2 c1 c2 l m W hr1 hr2 hl hm

set_option maxRecDepth 100000 in
theorem bsame_c (g g' : Nat) (L L' t t' : Int) (l l' : List Rg) (v v' : Value) (w : World) (h : BagT w g L t l v) (h' : BagT w g' L' t' l' v') (hl : l.length ≤ 1000000) (hl' : l'.length ≤ 1000000) :
    Calls Try.prog 28 #[.pointer (some ⟨g, 0, none⟩), .pointer (some ⟨g', 0, none⟩)] w fun e w' => e = .returned (.bool (decide (L = L' ∧ l = l'))) ∧ Below w.heap.size w w' := by
  obtain ⟨c0, -, c2, -, -, hg⟩ := bag_cells h
  obtain ⟨d0, -, d2, -, -, hg'⟩ := bag_cells h'
  have hE : Hid (∀ e : Later w.heap.size w, Calls Try.prog 45 #[v, v'] e.val fun r w' => r = .returned (.bool (decide (l = l'))) ∧ Below e.val.heap.size e.val w') := fun e =>
    eql_n l l' e.val v v' hl hl' (h.nds.kept e.property) (h'.nds.kept e.property)
  clear h h'
  by_cases hL : L = L'
  · subst hL
    have hD : Hid (decide (L = L ∧ l = l') = decide (l = l')) := by show _ = _; simp
    rw [hD.out]
    generalize decide (l = l') = G at *
    go_enter Try.func28, Try.ntmps28
    go_wp2_with fail
    refine wp_region_later (by kernel_rfl) (by kernel_rfl) ?_
    repeat (go_big_quiet_step (first | (go_at_call 45; exact calls_later (hE.out _)) | exact rfl))
    refine wpQuiet_nil ?_
    rintro _ ⟨e1, rfl⟩
    go_wp2_with fail
    go_ret
    exact ⟨rfl, e1.property⟩
  · have hD : Hid (decide (L = L' ∧ l = l') = false) := decide_eq_false fun k => hL k.1
    rw [hD.out]
    have hL2 : (L == L') = false := by simpa using hL
    go_enter Try.func28, Try.ntmps28
    go_wp2_with fail
    refine wp_region_later (by kernel_rfl) (by kernel_rfl) ?_
    repeat (go_big_quiet_step (first | (go_at_call 45; exact calls_later (hE.out _)) | exact rfl))
    refine wpQuiet_nil ?_
    rintro _ ⟨e1, rfl⟩
    go_wp2_with fail
    go_ret
    exact ⟨rfl, e1.property⟩
set_option maxRecDepth 100000 in
theorem bsame_nil (w : World) : Calls Try.prog 28 #[.pointer none, .pointer none] w fun e w' => e = .returned (.bool true) ∧ w = w' := by
  go_enter Try.func28, Try.ntmps28
  go_wp2_with fail
  go_ret
  exact ⟨rfl, rfl⟩
theorem run_eql_ptr_nl {P : Program} (w : World) {tp te : TypeId} (a : Addr) (hp : P.underlying tp = some (.pointer te)) :
    (binOp .eql tp (.pointer none) (.pointer (some a))).run P w = .ok (.bool false) w := by
  have h : ∀ d : Nat, (Op.equalIn (d + 1) tp (.pointer none) (.pointer (some a))).run P w = .ok false w := fun d => by
    simp [Op.equalIn, run_underlying hp]
  simp only [binOp]
  simp [Op.equal, Op.maxDepth, h 9999]
set_option maxRecDepth 100000 in
theorem bsame_l (g : Nat) (w : World) : Calls Try.prog 28 #[.pointer none, .pointer (some ⟨g, 0, none⟩)] w fun e w' => e = .returned (.bool false) ∧ w = w' := by
  have hp : (binOp BinOp.eql 24 (.pointer none) (.pointer (some ⟨g, 0, none⟩))).run Try.prog w = .ok (.bool false) w := run_eql_ptr_nl w ⟨g, 0, none⟩ Try.underlying24
  go_enter Try.func28, Try.ntmps28
  go_wp2_with fail
  go_ret
  exact ⟨rfl, rfl⟩
set_option maxRecDepth 100000 in
theorem bsame_r (g : Nat) (w : World) : Calls Try.prog 28 #[.pointer (some ⟨g, 0, none⟩), .pointer none] w fun e w' => e = .returned (.bool false) ∧ w = w' := by
  go_enter Try.func28, Try.ntmps28
  go_wp2_with fail
  go_ret
  exact ⟨rfl, rfl⟩

/-- What a maker of a bag hands back. -/
def Fresh (w : World) (L : Int) (l : List Rg) (e : Ending) (w' : World) : Prop :=
  ∃ g v, e = .returned (.tuple #[.pointer (some ⟨g, 0, none⟩), .int .i64 0]) ∧ BagAt w' g L l v ∧ Below w.heap.size w w' ∧ ∀ j, Foot g v j → w.heap.size ≤ j
set_option maxRecDepth 100000 in
theorem wider_no (M : Int) (g : Nat) (L : Int) (l : List Rg) (v : Value) (w : World) (h : BagAt w g L l v) (hM : M < L ∨ 48 < M) :
    Calls Try.prog 26 #[.pointer (some ⟨g, 0, none⟩), .int .i64 M] w fun e w' => e = .returned (.tuple #[.pointer none, .int .i64 2]) ∧ w = w' := by
  obtain ⟨c0, -, c2, -, -, hg⟩ := bag_cells h
  clear h
  by_cases h1 : M < L
  · clear hM
    go_enter Try.func26, Try.ntmps26
    go_wp2_with fail
    go_ret2
    exact ⟨rfl, rfl⟩
  · have h2 : 48 < M := by omega
    clear hM
    go_enter Try.func26, Try.ntmps26
    go_wp2_with fail
    go_ret2
    exact ⟨rfl, rfl⟩
set_option maxRecDepth 100000 in
theorem wider_yes (M : Int) (g : Nat) (L : Int) (l : List Rg) (v : Value) (w : World) (h : BagAt w g L l v) (hl : l.length ≤ 1000000) (hM : L ≤ M ∧ M ≤ 48) :
    Calls Try.prog 26 #[.pointer (some ⟨g, 0, none⟩), .int .i64 M] w (Fresh w M l) := by
  obtain ⟨c0, c1, c2, -, -, hg⟩ := bag_cells h
  have hI : Hid (∀ e : Later w.heap.size w, Calls Try.prog 33 #[.pointer (some ⟨g, 0, none⟩)] e.val fun r w' => ∃ u, r = .returned u ∧ w'.ownsRow e.val.heap.size 31 2 u l.length (ndv l) ∧ Below e.val.heap.size e.val w') := fun e =>
    items_c g L _ l v e.val (h.kept e.property) hl
  obtain ⟨h1, h2⟩ := hM
  clear h
  generalize htt : tot l = t at *
  replace htt := hide htt
  have hI2 : Hid (∀ W, Below w.heap.size w W → Calls Try.prog 33 #[.pointer (some ⟨g, 0, none⟩)] W fun r w' => ∃ u, r = .returned u ∧ w'.ownsRow W.heap.size 31 2 u l.length (ndv l) ∧ Below W.heap.size W w') := fun W hW => hI.out ⟨W, hW⟩
  have c1h := hide c1
  have hgh := hide hg
  clear hI
  go_enter Try.func26, Try.ntmps26
  go_wp2_with fail
  go_region_with (go_at_call 33; (with_reducible refine (hI2.out _ ?_).mono ?_); (first | exact Below.refl _ _ | exact (Below.refl _ _).drew); rintro e w1 ⟨u, rfl, how, hb1⟩; obtain ⟨A9, c9, rfl, _, _⟩ := own_form how; have q1 := (hb1.cell (p := ⟨g, 1, none⟩) hgh.out).trans c1h.out; have q0 := Nat.lt_of_lt_of_le hgh.out hb1.size; replace how := hide how)
  all_goals
    go_wp2_with fail
    go_ret2
    refine ⟨_, _, rfl, ⟨by rw [htt.out]; exact Blk.made _ _ _, own_base (how.out.alloc _) fun j _ => Nat.zero_le _⟩, ?_, ?_⟩
    · first | exact balloc hb1 _ | exact balloc ((Below.refl _ _).drew.trans hb1) _
    · intro j hj
      rcases hj with rfl | hj
      · exact hb1.size
      · exact (how.out.lt j hj).1
end Go.Proofs.Ytkjihbaiofocgaa

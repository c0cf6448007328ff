/- The walks of layer 5: whether all are nodes, a node's least value, a run of values laid out. By the prover of this repo. -/
import Derived.Test.YtbibchdjojmpaaaInts
import Derived.Test.YtbibchdjojmpaaaTwigW2
import Derived.Test.YtbibchdjojmpaaaTwigR2
import Derived.Test.YtbibchdjojmpaaaTileQ
namespace Go.Proofs.Ytbibchdjojmpaaa
open Go.RowKit
open TwigM TileM

theorem universe_c (l : Int) (w : World) : Calls Try.prog 62 #[.int .i64 l] w fun e w' => e = .returned (.bool (decide (1 ≤ l ∧ l ≤ 48))) ∧ w = w' := by
  have h := right_c l 1 w
  have e : rightB l 1 = decide (1 ≤ l ∧ l ≤ 48) := by
    unfold rightB
    have := pw_pos l
    exact decide_eq_decide.2 ⟨fun h => ⟨h.1, h.2.1⟩, fun h => ⟨h.1, h.2, by decide, (by have := pw_pos l; omega)⟩⟩
  rw [e] at h
  clear e
  generalize decide (1 ≤ l ∧ l ≤ 48) = u at h ⊢
  replace h := hide h
  go_enter Try.func62, Try.ntmps62
  go_wp2_with fail
  refine h.out.mono ?_
  rintro e w1 ⟨rfl, rfl⟩
  go_wp2_with fail
  go_ret
  exact ⟨rfl, rfl⟩

theorem all_step {L : Int} {l : List Int} {i : Nat} (h : i < l.length) (hr : rightB L l[i] = true) : (l.drop i).all (rightB L) = (l.drop (i + 1)).all (rightB L) := by
  rw [List.drop_eq_getElem_cons h, List.all_cons, hr, Bool.true_and]
theorem all_stop {L : Int} {l : List Int} {i : Nat} (h : i < l.length) (hr : rightB L l[i] = false) : (l.drop i).all (rightB L) = false := by
  rw [List.drop_eq_getElem_cons h, List.all_cons, hr, Bool.false_and]

set_option maxRecDepth 100000 in
theorem all_c (L : Int) (A : Option Addr) (c : Nat) (l : List Int) (w : World) (hr : Rd w A l.length 1 (ic l)) (hl : l.length ≤ 1000000) :
    Calls Try.prog 44 #[.int .i64 L, .slice A l.length c] w fun e w' => e = .returned (.bool (allB L l)) ∧ w = w' := by
  have hU := hide (fun W => universe_c L W)
  have hR := hide (fun x W => right_c L x W)
  generalize hG : allB L l = G
  replace hG : Hid (((l.drop 0).all (rightB L) && decide (1 ≤ L ∧ L ≤ 48)) = G) := by show _ = _; rw [← hG, List.drop_zero]; rfl
  generalize decide (1 ≤ L ∧ L ≤ 48) = u at hU hG
  have hrh := hide hr
  obtain ⟨n, hn⟩ : ∃ n, Hid (l.length = n) := ⟨_, rfl⟩
  rw [hn.out] at hl ⊢
  clear hr
  go_enter Try.func44, Try.ntmps44
  go_wp2_with fail
  go_loop [9] (fun x => ∃ i : Nat, i ≤ n ∧ x = .int .i64 i ∧ Hid (((l.drop i).all (rightB L) && u) = G)) (fun x => n - (intOf x).toNat)
  case atStart => exact ⟨0, Nat.zero_le _, rfl, hG⟩
  case round =>
    obtain ⟨i, hi, rfl, hg⟩ := hrel
    by_cases hlt : i < n
    · have hil : i < l.length := by rw [hn.out]; exact hlt
      obtain ⟨b, off, rfl, hb, hc⟩ := it_at hrh.out hil
      have h1 := hide (all_step (L := L) hil)
      have h2 := hide (all_stop (L := L) hil)
      have hx := hide (hR.out l[i])
      generalize l[i] = x at *
      cases hq : rightB L x
      · have hres : Hid (G = false) := by show _ = _; rw [← hg.out, h2.out hq, Bool.false_and]
        rw [hq] at hx
        clear hG
        go_wp2_with (go_at_call 52; refine (hx.out _).mono ?_; rintro e w' ⟨rfl, rfl⟩)
        go_ret
        exact ⟨by rw [hres.out]; rfl, rfl⟩
      · have hg2 : Hid (((l.drop (i + 1)).all (rightB L) && u) = G) := by show _ = _; rw [← h1.out hq]; exact hg.out
        rw [hq] at hx
        go_wp2_with (go_at_call 52; refine (hx.out _).mono ?_; rintro e w' ⟨rfl, rfl⟩)
        go_round
        case rel => exact ⟨i + 1, by omega, rfl, hg2⟩
        case measure => simp [intOf]; omega
    · have hin : i = n := by omega
      have hres : Hid (u = G) := by
        show _ = _
        rw [← hg.out, hin, ← hn.out, List.drop_length, List.all_nil, Bool.true_and]
      go_wp2_with (go_at_call 62; refine (hU.out _).mono ?_; rintro e w' ⟨rfl, rfl⟩)
      go_ret
      exact ⟨by rw [hres.out]; rfl, rfl⟩

theorem first_c (l id : Int) (w : World) : Calls Try.prog 48 #[.int .i64 l, .int .i64 id] w fun e w' => e = .returned (.int .i64 (endsF l id).1) ∧ ∃ n, w' = w.drewN n := by
  have h := hide (ends_c l id w)
  generalize endsF l id = q at h
  go_enter Try.func48, Try.ntmps48
  go_wp2_with fail
  refine h.out.mono ?_
  rintro e w1 ⟨rfl, n, rfl⟩
  go_wp2_with fail
  go_ret
  exact ⟨rfl, n, rfl⟩

/-- The boxes that 'lay' goes by: the universe, both ends, what is out, itself. -/
structure LaySt (H : Nat) (L a b : Int) (acc : List Int) (w : World) : Prop where
  bl : Blk w H 3 #[.int .i64 L]
  ba : Blk w (H + 1) 3 #[.int .i64 a]
  bb : Blk w (H + 2) 3 #[.int .i64 b]
  out : ∃ v, Blk w (H + 3) 37 #[v] ∧ w.ownsRow (H + 5) 3 1 v acc.length (iv acc)
  lay : Blk w (H + 4) 54 #[.func (.func 40) #[] #[.pointer (some ⟨H, 0, none⟩), .pointer (some ⟨H + 1, 0, none⟩), .pointer (some ⟨H + 2, 0, none⟩), .pointer (some ⟨H + 3, 0, none⟩), .pointer (some ⟨H + 4, 0, none⟩)]]
theorem LaySt.drewN {H : Nat} {L a b : Int} {acc : List Int} {w : World} (h : LaySt H L a b acc w) (n : Nat) : LaySt H L a b acc (w.drewN n) := ⟨h.bl, h.ba, h.bb, h.out, h.lay⟩
theorem LaySt.lt {H : Nat} {L a b : Int} {acc : List Int} {w : World} (h : LaySt H L a b acc w) : H + 5 ≤ w.heap.size := h.lay.lt

theorem lay_root {L a b id : Int} {k : Nat} (hN : Nd L id) (hk : lg id + (k + 1 : Nat) = L) (h1 : ¬ (hi L id < a ∨ b < lo L id)) (h2 : ¬ (a ≤ lo L id ∧ hi L id ≤ b)) :
    id < pw L ∧ Nd L (2 * id) ∧ Nd L (2 * id + 1) ∧ lg (2 * id) + k = L ∧ lg (2 * id + 1) + k = L := by
  have h : id < pw L := (inner_iff hN).2 (by omega)
  have e0 := lg_kid0 hN
  have e1 := lg_kid1 hN
  exact ⟨h, hN.kid0 h, hN.kid1 h, by omega, by omega⟩
set_option maxRecDepth 100000 in
set_option maxHeartbeats 2000000 in
theorem lay_flat (H : Nat) (L a b : Int) (k : Nat) (id : Int) (acc : List Int) (w : World) (hN : Nd L id) (hlen : acc.length + (lay L a b k id).length ≤ 100000) (hS : LaySt H L a b acc w) (hf : (hi L id < a ∨ b < lo L id) ∨ (a ≤ lo L id ∧ hi L id ≤ b)) :
    Calls Try.prog 40 #[.int .i64 id, .pointer (some ⟨H, 0, none⟩), .pointer (some ⟨H + 1, 0, none⟩), .pointer (some ⟨H + 2, 0, none⟩), .pointer (some ⟨H + 3, 0, none⟩), .pointer (some ⟨H + 4, 0, none⟩)] w fun e w' =>
      e = .returned (.tuple #[]) ∧ LaySt H L a b (acc ++ lay L a b k id) w' ∧ Below H w w' := by
  have hE := fun W => ends_yes L id W hN.l1 hN.l2 hN.a hN.b
  have hb0 := lo_le_hi hN
  have hb1 := node_range hN
  have hb2 := pw_le48 hN.l2
  change ∀ W : World, Calls _ _ _ _ fun e w' => e = .returned (.tuple #[.int .i64 (lo L id), .int .i64 (hi L id), .bool true]) ∧ ∃ n, w' = W.drewN n at hE
  obtain ⟨vo, hvo, how⟩ := hS.out
  have c0 := hS.bl.cell 0
  have c1 := hS.ba.cell 0
  have c2 := hS.bb.cell 0
  have c3 := hvo.cell 0
  have c4 := hS.lay.cell 0
  have f3 := hvo.free 0
  have hz := hS.lt
  simp only [List.getElem?_toArray, List.getElem?_cons_zero] at c0 c1 c2 c3 c4
  by_cases h1 : hi L id < a ∨ b < lo L id
  · have hlay : Hid (lay L a b k id = []) := lay_none h1 _
    generalize lo L id = x at *
    generalize hi L id = y at *
    replace hE := hide hE
    replace hS := hide hS
    clear hlen hvo how hf
    rcases (show y < a ∨ (a ≤ y ∧ b < x) by omega) with h2 | ⟨h2, h3⟩
    all_goals
      clear h1
      go_enter Try.func40, Try.ntmps40
      go_wp2_with (go_at_call 28; refine (hE.out _).mono ?_; rintro e w' ⟨rfl, n, rfl⟩)
      go_end0
      exact ⟨rfl, by rw [hlay.out, List.append_nil]; exact hS.out.drewN _, below_drewN (Below.refl _ _) _⟩
  · have h2 := hf.resolve_left h1
    have hlay : Hid (lay L a b k id = [id]) := lay_full hN h2 _
    obtain ⟨h2, h3⟩ := h2
    rw [hlay.out] at hlen
    have h4 : a ≤ hi L id := by omega
    have h5 : lo L id ≤ b := by omega
    have hm : acc.length ≤ 99999 := by simp at hlen; omega
    generalize lo L id = x at *
    generalize hi L id = y at *
    replace hE := hide hE
    have hSd := hide hS.drewN
    have hvd := hide hvo.drewN
    have hod := hide how
    obtain ⟨m, hmm⟩ : ∃ m, Hid (acc.length = m) := ⟨_, rfl⟩
    rw [hmm.out] at hm
    have how : w.ownsRow (H + 5) 3 1 vo m (iv acc) := by rw [← hmm.out]; exact how
    replace how := hide how
    clear hlen hvo h1 hS hod hf
    go_enter Try.func40, Try.ntmps40
    go_wp2_with (first
      | (go_at_call 28; refine (hE.out _).mono ?_; rintro e w' ⟨rfl, n, rfl⟩)
      | (at_builtin; refine wpList_app1 elInt rfl (.tmp 44) (.tmp 46) rfl (H + 5) _ _ _ [.int .i64 id] 3 rfl (own_drewN how.out n) rfl rfl (one1 rfl) (by omega) (by simp; omega) ?_; intro v1 w1 how1 hb1 hgr1 hat1; obtain ⟨A1, cp1, rfl, hf1, hf2, hf3⟩ := own_form how1; have c31 := (hb1.cell (p := ⟨H + 3, 0, none⟩) (show H + 3 < H + 5 by omega)).trans c3; have f31 := (hb1.frozen (p := ⟨H + 3, 0, none⟩) (show H + 3 < H + 5 by omega)).trans f3))
    go_end0
    refine ⟨rfl, ?_, ?_⟩
    · rw [hlay.out]
      have hSw := hSd.out n
      have h5 : H + 5 ≤ w1.heap.size := Nat.le_trans hz (by have := hb1.size; simpa using this)
      have how2 : w1.ownsRow (H + 5) 3 1 (.slice A1 (m + 1) cp1) (acc ++ [id]).length (iv (acc ++ [id])) := by
        rw [iv_snoc, List.length_append, hmm.out]; exact how1
      have key : ∀ (j : Nat) (t : TypeId) (cs : Array Value), j < 5 → j ≠ 3 → Blk (w.drewN n) (H + j) t cs → Blk (w1.setCell ⟨H + 3, 0, none⟩ (.slice A1 (m + 1) cp1)) (H + j) t cs := fun j t cs hj hj3 hB =>
        (hB.below hb1 (by omega)).off (by show H + j ≠ H + 3; omega) _
      have hv3 := ((hvd.out n).below hb1 (by omega)).set 0 (.slice A1 (m + 1) cp1)
      exact ⟨key 0 _ _ (by omega) (by omega) hSw.bl, key 1 _ _ (by omega) (by omega) hSw.ba, key 2 _ _ (by omega) (by omega) hSw.bb, ⟨_, hv3, ownsRow_setCell_below how2 (show H + 3 < H + 5 by omega) _⟩, key 4 _ _ (by omega) (by omega) hSw.lay⟩
    · exact (below_drewN (Below.refl _ _) n).trans ((hb1.mono (by omega)).setCell (by show H ≤ H + 3; omega) _)
set_option maxRecDepth 100000 in
set_option maxHeartbeats 4000000 in
theorem lay_c (H : Nat) (L a b : Int) : ∀ (k : Nat) (id : Int) (acc : List Int) (w : World), Nd L id → lg id + k = L → acc.length + (lay L a b k id).length ≤ 100000 → LaySt H L a b acc w →
    Calls Try.prog 40 #[.int .i64 id, .pointer (some ⟨H, 0, none⟩), .pointer (some ⟨H + 1, 0, none⟩), .pointer (some ⟨H + 2, 0, none⟩), .pointer (some ⟨H + 3, 0, none⟩), .pointer (some ⟨H + 4, 0, none⟩)] w fun e w' =>
      e = .returned (.tuple #[]) ∧ LaySt H L a b (acc ++ lay L a b k id) w' ∧ Below H w w' := by
  intro k
  induction k with
  | zero =>
    intro id acc w hN hk hlen hS
    refine lay_flat H L a b 0 id acc w hN hlen hS ?_
    have : hi L id = lo L id := by
      show lo L id + pw (L - lg id) - 1 = lo L id
      rw [show L - lg id = 0 by omega, pw_zero]; omega
    omega
  | succ k ih =>
    intro id acc w hN hk hlen hS
    by_cases hf : (hi L id < a ∨ b < lo L id) ∨ (a ≤ lo L id ∧ hi L id ≤ b)
    · exact lay_flat H L a b (k + 1) id acc w hN hlen hS hf
    · have h1 : ¬ (hi L id < a ∨ b < lo L id) := fun h => hf (.inl h)
      have h2 : ¬ (a ≤ lo L id ∧ hi L id ≤ b) := fun h => hf (.inr h)
      clear hf
      have hE := fun W => ends_yes L id W hN.l1 hN.l2 hN.a hN.b
      have hb0 := lo_le_hi hN
      have hb1 := node_range hN
      have hb2 := pw_le48 hN.l2
      change ∀ W : World, Calls _ _ _ _ fun e w' => e = .returned (.tuple #[.int .i64 (lo L id), .int .i64 (hi L id), .bool true]) ∧ ∃ n, w' = W.drewN n at hE
      obtain ⟨vo, hvo, how⟩ := hS.out
      have c0 := hS.bl.cell 0
      have c1 := hS.ba.cell 0
      have c2 := hS.bb.cell 0
      have c3 := hvo.cell 0
      have c4 := hS.lay.cell 0
      have f3 := hvo.free 0
      have hz := hS.lt
      simp only [List.getElem?_toArray, List.getElem?_cons_zero] at c0 c1 c2 c3 c4
      have hr := (lay_root hN hk h1 h2)
      obtain ⟨hid, n0, n1, k0, k1⟩ := hr
      have hlay : Hid (lay L a b (k + 1) id = lay L a b k (2 * id) ++ lay L a b k (2 * id + 1)) := by show _ = _; rw [lay, if_neg h1, if_neg h2]
      rw [hlay.out, List.length_append] at hlen
      have i0 := hide (fun W (hS : LaySt H L a b acc W) => ih (2 * id) acc W n0 k0 (by omega) hS)
      have i1 := hide (fun W (hS : LaySt H L a b (acc ++ lay L a b k (2 * id)) W) => ih (2 * id + 1) _ W n1 k1 (by rw [List.length_append]; omega) hS)
      have hid0 := hN.a
      have e0 : a ≤ hi L id := by omega
      have e1 : lo L id ≤ b := by omega
      generalize lo L id = x at *
      generalize hi L id = y at *
      replace hE := hide hE
      have hSd := hide hS.drewN
      clear ih hlen hvo h1 hS how k0 k1 n0 n1
      rcases (show x < a ∨ (a ≤ x ∧ b < y) by omega) with h3 | ⟨h3, h4⟩
      all_goals
        clear h2
        go_enter Try.func40, Try.ntmps40
        go_wp2_with (first
          | (go_at_call 28; refine (hE.out _).mono ?_; rintro e w' ⟨rfl, n, rfl⟩)
          | (go_at_call 40; first
            | ((with_reducible refine (i0.out _ (hSd.out n)).mono ?_); rintro e w1 ⟨rfl, hS1, hb1⟩; have c41 := hS1.lay.cell 0; simp only [List.getElem?_toArray, List.getElem?_cons_zero] at c41; have hS1 := hide hS1)
            | ((with_reducible refine (i1.out _ hS1.out).mono ?_); rintro e w2 ⟨rfl, hS2, hb2⟩; have hS2 := hide hS2)))
        go_end0
        refine ⟨rfl, ?_, ((below_drewN (Below.refl _ _) n).trans hb1).trans hb2⟩
        rw [hlay.out, ← List.append_assoc]
        exact hS2.out
end Go.Proofs.Ytbibchdjojmpaaa

/- The walks of layer 28, on: the reference's Kids, ahead, Order. By the prover of this repo. -/
import Derived.Test.YtcpakoobgcdekaaDoorGroveE
namespace Go.Proofs.YtcpakoobgcdekaaDoor
open Go.RowKit Go.Shelf

def kidsG (p : List Int) (i : Int) (k : Nat) : List Nat := (List.range k).filter fun k => decide (p.getD k 0 = i)
theorem kidsG_succ (p : List Int) (i : Int) (k : Nat) : kidsG p i (k + 1) = kidsG p i k ++ if p.getD k 0 = i then [k] else [] := by
  unfold kidsG
  rw [List.range_succ, List.filter_append]
  congr 1
  by_cases h : p.getD k 0 = i
  · rw [if_pos h]; simp only [List.filter_cons, List.filter_nil, decide_eq_true h, if_true]
  · rw [if_neg h]; simp only [List.filter_cons, List.filter_nil, decide_eq_false h, Bool.false_eq_true, if_false]
theorem kidsG_length (p : List Int) (i : Int) (k : Nat) : (kidsG p i k).length ≤ k := by
  unfold kidsG
  exact Nat.le_trans (List.length_filter_le _ _) (by simp)
set_option maxRecDepth 100000 in
theorem ref28_kids (A : Option Addr) (c : Nat) (p : List Int) (i : Int) (w : World) (hr : Rd w A p.length 1 (ic p)) (hn : p.length ≤ 1000) :
    Calls Tryd.prog 28 #[.slice A p.length c, .int .i64 i] w fun e w' => ∃ v, e = .returned v ∧ Its w' v (intN (kidsL p i)) ∧ Below w.heap.size w w' := by
  have hfin : Hid (kidsG p i p.length = kidsL p i) := rfl
  have hst := hide (kidsG_succ p i)
  have hle := hide (kidsG_length p i)
  have h00 : Hid (kidsG p i 0 = []) := rfl
  generalize kidsG p i = K at *
  obtain ⟨n, hnn⟩ : ∃ n, Hid (p.length = n) := ⟨_, rfl⟩
  rw [hnn.out] at hn hfin ⊢
  have hrH := hide hr
  clear hr
  go_enter Tryd.func28, Tryd.ntmps28
  go_wp2_with fail
  go_loopw [5, 6] (fun out x wr => ∃ (k : Nat), x = .int .i64 k ∧ k ≤ n ∧ wr.ownsRow w.heap.size 3 1 out (K k).length (iv (intN (K k))) ∧ Below w.heap.size w wr) (fun _ x _ => n - (intOf x).toNat)
  case atStart => exact ⟨0, rfl, Nat.zero_le _, by rw [h00.out]; exact World.ownsRow_nil _ _ _ _, Below.refl _ _⟩
  case round =>
    obtain ⟨k, rfl, hk, how, hbel⟩ := hrel
    obtain ⟨Ao, co, rfl, ho1, ho2, ho3⟩ := own_form how
    have hz := hbel.size
    have hl := hle.out k
    by_cases hlt : k < n
    · have hkl : k < p.length := by rw [hnn.out]; exact hlt
      obtain ⟨b, off, rfl, hb, hc⟩ := it_at (hrH.out.of_below (Nat.le_refl _) hbel) hkl
      have e : p.getD k 0 = p[k] := by simp [hkl]
      have hs := hst.out k
      rw [e] at hs
      obtain ⟨L, hL⟩ : ∃ L, Hid (K k = L) := ⟨_, rfl⟩
      rw [hL.out] at hs hl how ho1 ho2 ⊢
      obtain ⟨m, hm⟩ : ∃ m, Hid (L.length = m) := ⟨_, rfl⟩
      rw [hm.out] at hl how ho1 ho2 ⊢
      have how := hide how
      have hbel := hide hbel
      by_cases hy : p[k] = i
      · rw [if_pos hy] at hs
        rw [hy] at hc
        have hs := hide hs
        clear hy e
        go_wp2_with (at_builtin; refine wpList_app1 elInt rfl (.tmp 19) (.tmp 21) rfl w.heap.size _ _ _ [.int .i64 (k : Int)] 3 rfl how.out rfl rfl (one1 rfl) (by omega) hz ?_; intro v1 w1 how1 hb1 hgr1 hat1; have how1 := hide how1; have hb1 := hide hb1; clear hgr1 hat1)
        go_roundw
        case rel => exact ⟨k + 1, by go_num, by omega, by rw [hs.out, show intN (L ++ [k]) = intN L ++ [(k : Int)] by simp [intN], List.length_append, iv_snoc, hm.out]; exact how1.out, hbel.out.trans hb1.out⟩
        case measure => simp [intOf]; omega
      · rw [if_neg hy, List.append_nil] at hs
        have hs := hide hs
        clear e
        generalize p[k] = y at *
        have hne : (y == i) = false := by simp; omega
        go_wp2_with fail
        go_roundw
        case rel => exact ⟨k + 1, by go_num, by omega, by rw [hs.out, hm.out]; exact how.out, hbel.out⟩
        case measure => simp [intOf]; omega
    · obtain rfl : k = n := by omega
      rw [hfin.out] at how ho1 ho2 ⊢
      have how := hide how
      have hbel := hide hbel
      go_wp2_with fail
      go_ret
      exact ⟨_, rfl, own_its (intN_length _) how.out, hbel.out⟩

set_option maxRecDepth 100000 in
set_option maxHeartbeats 1000000 in
theorem ref28_ahead (A : Option Addr) (c : Nat) (p : List Int) (hn : p.length ≤ 48) (hWy : Ways p) : ∀ (m i : Nat) (w : World), Rd w A p.length 1 (ic p) → i < p.length → Hgt p m i → m ≤ 48 →
    Calls Tryd.prog 58 #[.slice A p.length c, .int .i64 i, .int .i64 (48 - m : Nat)] w fun e w' => ∃ v, e = .returned v ∧ Its w' v (intN (walkF p m i)) ∧ Below w.heap.size w w' := by
  intro m
  induction m using Nat.strongRecOn with
  | ind m ih =>
  intro i w hr hi hg hm
  have hweq := hide (walk_eq hg)
  have hkd := hide (ref28_kids A c p (i : Int) w hr (by omega))
  have hmem : ∀ k ∈ kidsL p (i : Int), k < p.length ∧ 1 ≤ m ∧ Hgt p (m - 1) k := fun k hk => ⟨(kidsL_mem.1 hk).1, hgt_kid hg hk⟩
  have hkl : (kidsL p (i : Int)).length ≤ 48 := by
    unfold kidsL
    exact Nat.le_trans (List.length_filter_le _ _) (by simpa using hn)
  generalize kidsL p (i : Int) = ks at *
  have hlens := hide (fun (x : Nat) (hx : x < p.length) (hg : Hgt p (m - 1) x) => walk_length hWy hn hx hg)
  have hcall := hide (fun (x : Nat) (W : World) (hW : Below w.heap.size w W) (hx : x < p.length) (h1 : 1 ≤ m) (hg : Hgt p (m - 1) x) => ih (m - 1) (by omega) x W (hr.of_below (Nat.le_refl _) hW) hx hg (by omega))
  have hmem := hide hmem
  obtain ⟨q, hq⟩ : ∃ q, Hid (ks.length = q) := ⟨_, rfl⟩
  obtain ⟨n, hnn⟩ : ∃ n, Hid (p.length = n) := ⟨_, rfl⟩
  obtain ⟨d, hd⟩ : ∃ d, 48 - m = d := ⟨_, rfl⟩
  have hkq := hkl
  rw [hq.out] at hkq
  rw [hnn.out] at hcall hkd ⊢
  rw [hd]
  have hd48 : d ≤ 48 := by omega
  clear ih hr hg
  go_enter Tryd.func58, Tryd.ntmps58
  go_wp2_with (go_at_call 28; refine hkd.out.mono ?_; rintro e w1 ⟨v8, rfl, ⟨A8, c8, rfl, _, _, _, hr8⟩, hb1⟩; have hb1 := hide hb1; have hr8 := hide hr8; clear hkd)
  rw [show (intN ks).length = q by rw [intN_length, hq.out]] at hr8 ⊢
  go_loopw [7, 9] (fun out x wr => ∃ (k : Nat), x = .int .i64 k ∧ k ≤ q ∧ wr.ownsRow w1.heap.size 3 1 out ((ks.take k).flatMap (walkF p (m - 1))).length (iv (intN ((ks.take k).flatMap (walkF p (m - 1))))) ∧ ((ks.take k).flatMap (walkF p (m - 1))).length ≤ 48 * k ∧ Below w1.heap.size w1 wr) (fun _ x _ => q - (intOf x).toNat)
  case atStart => exact ⟨0, rfl, Nat.zero_le _, World.ownsRow_nil _ _ _ _, Nat.le_refl _, Below.refl _ _⟩
  case round =>
    obtain ⟨k, rfl, hk, how, hlen, hbel⟩ := hrel
    obtain ⟨Ao, co, rfl, ho1, ho2, ho3⟩ := own_form how
    have hz := hbel.size
    by_cases hlt : k < q
    · have hks : k < ks.length := by rw [hq.out]; exact hlt
      have hil : k < (intN ks).length := by rw [intN_length]; exact hks
      obtain ⟨b, off, rfl, hb, hc⟩ := hr8.out (by omega)
      have hck : wr.cell? ⟨b, off + k, none⟩ = some (.int .i64 (ks[k] : Int)) := by
        have h0 := hc k (by omega)
        rw [show ic (intN ks) k = .int .i64 (ks[k] : Int) by simp [ic, intN, hks]] at h0
        exact (hbel.cell (p := ⟨b, off + k, none⟩) hb).trans h0
      obtain ⟨hx1, hm1, hxg⟩ := hmem.out ks[k] (List.getElem_mem hks)
      have hsn : Hid ((ks.take (k + 1)).flatMap (walkF p (m - 1)) = (ks.take k).flatMap (walkF p (m - 1)) ++ walkF p (m - 1) ks[k]) := by show _ = _; rw [List.take_succ_eq_append_getElem hks, List.flatMap_append]; simp
      have hxl := hlens.out _ hx1 hxg
      have hca := hcall.out ks[k] wr (hb1.out.trans (hbel.mono hb1.out.size)) (hnn.out ▸ hx1) hm1 hxg
      rw [show 48 - (m - 1) = d + 1 by omega] at hca
      generalize (ks.take k).flatMap (walkF p (m - 1)) = T at *
      generalize walkF p (m - 1) ks[k] = X at *
      generalize ks[k] = x at *
      obtain ⟨tl, htl⟩ : ∃ tl, Hid (T.length = tl) := ⟨_, rfl⟩
      have hxn := intN_length X
      rw [htl.out] at how hlen ho1 ho2 ⊢
      have hca := hide hca
      have hXr := hide (iv_range (intN X))
      have hone := hide (ic_one (intN X))
      obtain ⟨xl, hxll⟩ : ∃ xl, Hid ((intN X).length = xl) := ⟨_, rfl⟩
      rw [hxll.out] at hxn hXr
      rw [← hxn] at hxl
      replace hxn := hide hxn
      have how := hide how
      have hbel := hide hbel
      have hd1 : d < 48 := by omega
      clear hc hxg hx1
      go_wp2_with (first
        | (go_at_call 58; refine hca.out.mono ?_; rintro e w2 ⟨v2, rfl, ⟨A2, c2, rfl, hA2, _, _, hr2⟩, hb2⟩; rw [hxll.out] at hA2 hr2 ⊢; have how2 := hide (own_kept1 how.out hb2); have hb12 := hide (hbel.out.trans (hb2.mono hz)); have hz2 : w1.heap.size ≤ w2.heap.size := Nat.le_trans hz hb2.size; have hr2 := hide hr2; have hA2 := hide hA2; clear hb2)
        | (at_builtin; refine wpList_app elInt rfl (.tmp 23) (.tmp 31) rfl w1.heap.size _ _ _ rfl how2.out A2 xl c2 (ic (intN X)) rfl hr2.out (fun i _ => hone.out i) (by omega) hz2 hA2.out ?_; intro v3 w3 how3 hb3 hgr3 hat3; rw [Nat.mul_one, hXr.out] at how3; have how3 := hide how3; have hb3 := hide hb3; clear hgr3 hat3))
      go_roundw
      case rel => exact ⟨k + 1, by go_num, by omega, by rw [hsn.out, List.length_append, htl.out, intN_append, iv_append, ← intN_length X, hxll.out]; exact how3.out, by rw [hsn.out, List.length_append, htl.out, ← hxn.out]; omega, hb12.out.trans hb3.out⟩
      case measure => simp [intOf]; omega
    · obtain rfl : k = q := by omega
      have hfin : Hid ((ks.take k).flatMap (walkF p (m - 1)) ++ [i] = walkF p m i) := by show _ = _; rw [hweq.out, List.take_of_length_le (by rw [hq.out]; omega)]
      generalize (ks.take k).flatMap (walkF p (m - 1)) = T at *
      obtain ⟨tl, htl⟩ : ∃ tl, Hid (T.length = tl) := ⟨_, rfl⟩
      rw [htl.out] at how hlen ho1 ho2 ⊢
      have how := hide how
      have hbel := hide hbel
      go_wp2_with (at_builtin; refine wpList_app1 elInt rfl (.tmp 33) (.tmp 35) rfl w1.heap.size _ _ _ [.int .i64 (i : Int)] 3 rfl how.out rfl rfl (one1 rfl) (by omega) hz ?_; intro v1 w3 how1 hb3 hgr1 hat1; have how1 := hide how1; have hb3 := hide hb3; clear hgr1 hat1)
      go_ret
      exact ⟨_, rfl, own_its (n := tl + 1) (by rw [intN_length, ← hfin.out, List.length_append, htl.out]; rfl) (by rw [← hfin.out, intN_append, iv_append]; exact how1.out), hb1.out.trans ((hbel.out.trans hb3.out).mono hb1.out.size)⟩
set_option maxRecDepth 100000 in
theorem ref28_order (A : Option Addr) (c : Nat) (p : List Int) (w : World) (hr : Rd w A p.length 1 (ic p)) (hb : rightF p = true) :
    Calls Tryd.prog 21 #[.slice A p.length c] w fun e w' => ∃ v, e = .returned v ∧ Its w' v (intN (orderF p)) ∧ Below w.heap.size w w' := by
  obtain ⟨hWy, _, h48, hro⟩ := ways_of_right hb
  have hk := first_root hro
  have h1 := hide (ref28_root A c p (rootK p) w hr (by omega) hk)
  have h2 := hide (fun W (h : Below w.heap.size w W) => ref28_ahead A c p h48 hWy 48 (rootK p) W (hr.of_below (Nat.le_refl _) h) hk.1 (hgt_of_ways hWy hk.1).1 (Nat.le_refl _))
  unfold orderF
  rw [if_pos hb]
  clear hr hWy
  go_enter Tryd.func21, Tryd.ntmps21
  go_wp2_with (first
    | (go_at_call 20; refine h1.out.mono ?_; rintro e w1 ⟨rfl, hb1⟩; have h3 := hide (h2.out w1 hb1); have hb1 := hide hb1)
    | (go_at_call 58; refine h3.out.mono ?_; rintro e w2 ⟨v, rfl, hv, hb2⟩; have hb2 := hide hb2; have hv := hide hv))
  go_ret
  exact ⟨_, rfl, hv.out, bthen hb1.out hb2.out⟩
end Go.Proofs.YtcpakoobgcdekaaDoor

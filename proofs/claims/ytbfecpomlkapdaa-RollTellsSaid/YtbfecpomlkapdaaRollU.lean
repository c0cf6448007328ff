/- The walks of layer 6, on: by rising numbers; one more put at a place. By the prover of this repo. -/
import Derived.Test.YtbfecpomlkapdaaRollT
namespace Go.Proofs.Ytbfecpomlkapdaa
open Go.RowKit
open TwigM RollM

theorem sorted_lt (x y : Nd) (w : World) : Calls Try.prog 64 #[nv x, nv y] w fun e w' => e = .returned (.bool (ltS x y)) ∧ Below w.heap.size w w' := by
  obtain ⟨x1, x2⟩ := x
  obtain ⟨y1, y2⟩ := y
  unfold ltS
  go_enter Try.func64, Try.ntmps64
  go_wp2_with fail
  go_ret
  exact ⟨rfl, balloc (balloc0 _ _) _⟩
theorem cmpS (w : World) : CmpS w := fun x y W' _ => sorted_lt x y W'

theorem roll_sorted (A : Option Addr) (c : Nat) (l : List Nd) (w : World) (hr : Rd w A l.length 2 (ndc l)) (hA : A = none → l.length = 0) (hc : l.length ≤ c) (hm : c ≤ maxLen) (hl : l.length ≤ 1000000) :
    Calls Try.prog 43 #[.slice A l.length c] w fun e w' => ∃ v, e = .returned v ∧ Nds w' v (isort ltS l) ∧ Below w.heap.size w w' := by
  have h := hide (sorted_S l.length l.length (Nat.le_refl _) A c l w rfl hl hr hA hc hm (cmpS w))
  generalize l.length = n at *
  go_enter Try.func43, Try.ntmps43
  go_wp2_with fail
  refine h.out.mono ?_
  rintro e w1 ⟨v, rfl, hv, hb1⟩
  go_wp2_with fail
  go_ret
  exact ⟨v, rfl, hv, hb1⟩

/-- A list that a call has made: nil, or the head of a block. -/
def Ndo (w : World) (v : Value) (l : List Nd) : Prop :=
  (v = .slice none 0 0 ∧ l = []) ∨ ∃ g c, v = .slice (some ⟨g, 0, none⟩) l.length c ∧ l.length ≤ c ∧ c ≤ maxLen ∧ Rd w (some ⟨g, 0, none⟩) l.length 2 (ndc l)
theorem own_ndo {w : World} {base : Nat} {v : Value} {l : List Nd} (h : w.ownsRow base 43 2 v l.length (ndv l)) : Ndo w v l := by
  rcases h.2 with ⟨rfl, h0⟩ | ⟨g, cap, cur, rfl, _, _, h1, h2, _⟩
  · exact .inl ⟨rfl, List.eq_nil_of_length_eq_zero h0⟩
  · refine .inr ⟨g, cap, rfl, h1, h2, (own_rd h).congr fun i hi => ?_⟩
    show (ndv l).getD i undef = _
    rw [List.getD_eq_getElem?_getD, ndv_get l i hi]
    rfl
theorem Ndo.kept {w w' : World} {v : Value} {l : List Nd} (h : Ndo w v l) (hb : Below w.heap.size w w') : Ndo w' v l := by
  rcases h with h | ⟨g, c, h1, h2, h3, h4⟩
  · exact .inl h
  · exact .inr ⟨g, c, h1, h2, h3, h4.kept hb⟩
theorem Ndo.nds {w : World} {v : Value} {l : List Nd} (h : Ndo w v l) : Nds w v l := by
  rcases h with ⟨rfl, rfl⟩ | ⟨g, c, rfl, h2, h3, h4⟩
  · exact Nds.nil w
  · exact ⟨_, c, rfl, (fun h => by cases h), h2, h3, h4⟩

/-- A box of two cells behind a call that only wrote beyond it. -/
theorem box_cells {w w1 : World} {a b : Value} {t : TypeId} (hb : Below (w.heap.size + 1) (w.alloc (.cells #[a, b] t)) w1) : w1.cell? ⟨w.heap.size, 0, none⟩ = some a ∧ w1.cell? ⟨w.heap.size, 1, none⟩ = some b ∧ w.heap.size < w1.heap.size := by
  have h := (Blk.made w t #[a, b]).below hb (by omega)
  exact ⟨h.cell 0, h.cell 1, h.lt⟩
theorem put_three (l : List Nd) (k : Nat) (x : Nd) : ndv (l.take k) ++ [.int .i64 x.1, .int .i64 x.2] ++ ndv (l.drop k) = ndv (l.take k ++ x :: l.drop k) := by simp [ndv]
theorem put_len (l : List Nd) (k : Nat) (x : Nd) (h : k ≤ l.length) : (l.take k ++ x :: l.drop k).length = l.length + 1 := by simp; omega
theorem ndv_take (l : List Nd) (k : Nat) (h : k ≤ l.length) : (List.range (k * 2)).map (ndc l) = ndv (l.take k) := by
  rw [← ndv_range (l.take k), List.length_take, Nat.min_eq_left h]
  exact List.map_congr_left fun i hi => ndc_take l k i (by simpa using hi)

set_option maxRecDepth 100000 in
set_option maxHeartbeats 2000000 in
theorem ref06_put (v : Value) (k : Nat) (x : Nd) (l : List Nd) (w : World) (hv : Ndo w v l) (hk : k ≤ l.length) (hl : l.length ≤ 1000000) :
    Calls Try.prog 63 #[v, .int .i64 k, nv x] w fun e w' => ∃ v', e = .returned v' ∧ Ndo w' v' (l.take k ++ x :: l.drop k) ∧ Below w.heap.size w w' := by
  obtain ⟨x1, x2⟩ := x
  have hres : Hid (∀ (w' : World) (v' : Value) (m : Nat), m = l.length + 1 → w'.ownsRow (w.heap.size + 1) 43 2 v' m (ndv (l.take k) ++ [.int .i64 x1, .int .i64 x2] ++ ndv (l.drop k)) → Ndo w' v' (l.take k ++ (x1, x2) :: l.drop k)) := by
    intro w' v' m hm h
    rw [put_three l k (x1, x2), hm, ← put_len l k (x1, x2) hk] at h
    exact own_ndo h
  have htk := hide (ndv_take l k hk)
  have hdr := hide (ndv_range (l.drop k))
  have hld : Hid ((l.drop k).length = l.length - k) := by show _ = _; simp
  rw [hld.out] at hdr
  have how0 := World.ownsRow_nil (w.alloc (.cells #[.int .i64 x1, .int .i64 x2] 43)) (w.heap.size + 1) 43 2
  rcases hv with ⟨rfl, rfl⟩ | ⟨g, c, rfl, hc1, hc2, hr⟩
  · obtain rfl : k = 0 := by simpa using hk
    clear hk hl
    go_enter Try.func63, Try.ntmps63
    go_wp2_with (first
      | (at_builtin; refine wpList_app elNode rfl (.tmp 8) (.tmp 11) rfl (w.heap.size + 1) _ 0 [] rfl how0 none 0 0 (ndc []) rfl (Rd.zero _ _ _ _) (fun i _ => ndc_one _ i) (by omega) (by simp) (fun _ => rfl) ?_; intro v1 w1 how1 hb1 hgr1 hat1; obtain ⟨q0, q1, q2⟩ := box_cells hb1)
      | (at_builtin; refine wpList_app1 elNode rfl (.tmp 13) (.tmp 15) rfl (w.heap.size + 1) _ _ _ [.int .i64 x1, .int .i64 x2] 43 rfl how1 rfl rfl (nd_ones (x1, x2)) (by omega) (by omega) ?_; intro v2 w2 how2 hb2 hgr2 hat2)
      | (at_builtin; refine wpList_app elNode rfl (.tmp 17) (.tmp 20) rfl (w.heap.size + 1) _ _ _ rfl how2 none 0 0 (ndc []) rfl (Rd.zero _ _ _ _) (fun i _ => ndc_one _ i) (by omega) (by have := hb2.size; omega) (fun _ => rfl) ?_; intro v3 w3 how3 hb3 hgr3 hat3))
    go_ret
    exact ⟨v3, rfl, hres.out w3 v3 _ rfl (by simpa [ndv] using how3), (balloc0 _ _).trans (((hb1.trans hb2).trans hb3).mono (by omega))⟩
  · obtain ⟨n, hn⟩ : ∃ n, l.length = n := ⟨_, rfl⟩
    rw [hn] at hc1 hr hl hk hdr hres
    have hr1 : Rd w (some ⟨g, 0, none⟩) k 2 (ndc l) := hr.less hk
    have hr2 : 0 < n - k → Rd w (some ⟨g, k * 2, none⟩) (n - k) 2 (ndc (l.drop k)) := fun hp => by
      obtain ⟨b', o', e, hlt, hc⟩ := hr (by omega)
      injection e with e
      injection e with e1 e2
      subst e1 e2
      exact fun _ => ⟨g, k * 2, rfl, hlt, fun i hi => by have := hc (k * 2 + i) (by omega); rw [Nat.zero_add] at this; rw [this, ndc_drop]⟩
    have hr3 : ∀ A, (k < n → A = some ⟨g, k * 2, none⟩) → Rd w A (n - k) 2 (ndc (l.drop k)) := fun A hA => by
      by_cases h : k < n
      · rw [hA h]; exact hr2 (by omega)
      · rw [show n - k = 0 by omega]; exact Rd.zero _ _ _ _
    have hr1h := hide hr1
    have hr3h := hide hr3
    rw [hn]
    clear hr hr1 hr2 hr3 hn hld
    unfold maxLen at hc2
    by_cases hck : c = k
    · have hck2 : c = n := by omega
      subst hck2
      subst hck
      have hdz : Hid (ndv (l.drop c) = []) := by have := hdr.out; rw [Nat.sub_self] at this; show _ = _; rw [← this]; simp
      clear hr3h hdr
      go_enter Try.func63, Try.ntmps63
      go_wp2_with (first
        | (at_builtin; refine wpList_app elNode rfl (.tmp 8) (.tmp 11) rfl (w.heap.size + 1) _ 0 [] rfl how0 (some ⟨g, 0, none⟩) c _ (ndc l) rfl (hr1h.out.alloc _) (fun i _ => ndc_one _ i) (by omega) (by simp) (fun k => by cases k) ?_; intro v1 w1 how1 hb1 hgr1 hat1; obtain ⟨q0, q1, q2⟩ := box_cells hb1)
        | (at_builtin; refine wpList_app1 elNode rfl (.tmp 13) (.tmp 15) rfl (w.heap.size + 1) _ _ _ [.int .i64 x1, .int .i64 x2] 43 rfl how1 rfl rfl (nd_ones (x1, x2)) (by omega) (by omega) ?_; intro v2 w2 how2 hb2 hgr2 hat2)
        | (at_builtin; refine wpList_app elNode rfl (.tmp 17) (.tmp 20) rfl (w.heap.size + 1) _ _ _ rfl how2 _ 0 _ (ndc []) rfl (Rd.zero _ _ _ _) (fun i _ => ndc_one _ i) (by omega) (by have := hb2.size; omega) (fun k => by cases k) ?_; intro v3 w3 how3 hb3 hgr3 hat3))
      go_ret
      refine ⟨v3, rfl, hres.out w3 v3 (0 + c + 1 + 0) ?_ ?_, (balloc0 _ _).trans (((hb1.trans hb2).trans hb3).mono (by omega))⟩
      rotate_left
      · rw [htk.out, List.nil_append] at how3
        rw [hdz.out]
        exact how3
      · omega
    · have h3 := hr3h.out (some ⟨g, k * 2, none⟩) (fun _ => rfl)
      replace h3 := hide h3
      go_enter Try.func63, Try.ntmps63
      go_wp2_with (first
        | (at_builtin; refine wpList_app elNode rfl (.tmp 8) (.tmp 11) rfl (w.heap.size + 1) _ 0 [] rfl how0 (some ⟨g, 0, none⟩) k _ (ndc l) rfl (hr1h.out.alloc _) (fun i _ => ndc_one _ i) (by omega) (by simp) (fun k => by cases k) ?_; intro v1 w1 how1 hb1 hgr1 hat1; obtain ⟨q0, q1, q2⟩ := box_cells hb1)
        | (at_builtin; refine wpList_app1 elNode rfl (.tmp 13) (.tmp 15) rfl (w.heap.size + 1) _ _ _ [.int .i64 x1, .int .i64 x2] 43 rfl how1 rfl rfl (nd_ones (x1, x2)) (by omega) (by omega) ?_; intro v2 w2 how2 hb2 hgr2 hat2)
        | (at_builtin; refine wpList_app elNode rfl (.tmp 17) (.tmp 20) rfl (w.heap.size + 1) _ _ _ rfl how2 _ (n - k) _ (ndc (l.drop k)) rfl ((h3.out.alloc _).of_below (by simp) (hb1.trans hb2)) (fun i _ => ndc_one _ i) (by omega) (by have := hb2.size; omega) (fun k => by cases k) ?_; intro v3 w3 how3 hb3 hgr3 hat3))
      go_ret
      refine ⟨v3, rfl, hres.out w3 v3 (0 + k + 1 + (n - k)) ?_ ?_, (balloc0 _ _).trans (((hb1.trans hb2).trans hb3).mono (by omega))⟩
      rotate_left
      · rw [hdr.out, htk.out, List.nil_append] at how3
        exact how3
      · omega
end Go.Proofs.Ytbfecpomlkapdaa

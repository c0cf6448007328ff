/- The walks of layer 28, on: walk, Root, Order, Below, Way, Hang. By the prover of this repo. -/
import Derived.Test.YtcpakoobgcdekaaDoorGroveV
import Derived.Test.YtcpakoobgcdekaaDoorFrame
import Derived.Laws.EntriesVeiled
namespace Go.Proofs.YtcpakoobgcdekaaDoor
open Go.RowKit Go.Shelf

/-- A store into an owned list of int. -/
theorem own_put {w : World} {base : Nat} {v : Value} {l : List Int} {k : Nat} (hk : k < l.length) (h : w.ownsRow base 3 1 v l.length (iv l)) :
    ∃ g cap, v = .slice (some ⟨g, 0, none⟩) l.length cap ∧ base ≤ g ∧ g < w.heap.size ∧ w.frozen? ⟨g, k, none⟩ = false ∧ w.cell? ⟨g, k, none⟩ = some (ic l k) ∧ l.length ≤ cap ∧ cap ≤ maxLen ∧
      ∀ u : Int, Rd (w.setCell ⟨g, k, none⟩ (.int .i64 u)) (some ⟨g, 0, none⟩) l.length 1 (ic (l.set k u)) := by
  have hrd := h
  obtain ⟨A, c, rfl, _, hc1, hc2⟩ := own_form h
  have hr := own_rd hrd
  rcases h.2 with ⟨e, _⟩ | ⟨g, cap, cur, hv, hb, hg, _⟩
  · injection e with _ e2 _
    omega
  · injection hv with h1 h2 h3
    subst h1
    have hB : Blk w g 3 cur := hg
    obtain ⟨b, off, e, hlt, hcell⟩ := hr (by omega)
    cases e
    have hic : ∀ j, j < l.length → cur[j]? = some (ic l j) := fun j hj => by
      have := hcell j (by omega)
      rw [Nat.zero_add, hB.cell] at this
      rw [this]
      simp [iv, ic, hj]
    refine ⟨g, c, rfl, hb, hlt, hB.free k, by rw [hB.cell]; exact hic k hk, hc1, hc2, fun u => ?_⟩
    refine Rd.of_blk (hB.set k (.int .i64 u)) 0 ?_ (fun j hj => ?_)
    · have := (Array.getElem?_eq_some_iff.1 (hic (l.length - 1) (by omega))).1
      simp
      omega
    · have hj' : j < l.length := by omega
      rw [Nat.zero_add, Array.getElem?_setIfInBounds]
      have hjc := (Array.getElem?_eq_some_iff.1 (hic j hj')).1
      by_cases e : k = j
      · subst e
        simp [hjc, ic, hj']
      · rw [if_neg e, hic j hj']
        simp [ic, e]

set_option maxRecDepth 100000 in
theorem grove_walk (A : Option Addr) (c : Nat) (p : List Int) (m i : Nat) (w : World) (hr : Rd w A p.length 1 (ic p)) (hn : p.length ≤ 48) (hT : Tz w) (hWy : Ways p) (hi : i < p.length) (hg : Hgt p m i) (hm : m ≤ 48) :
    Calls Tryd.prog 56 #[.slice A p.length c, .int .i64 i] w fun e w' => ∃ v, e = .returned v ∧ Its w' v (intN (walkF p m i)) ∧ Below w.heap.size w w' := by
  have h0 := fun W => walk1_c A c p w hn hr hT hWy m i [] W hi hg hm (Nat.zero_le _)
  have hW0 : Wc A c p w (((w.alloc (.cells #[.slice A p.length c] 22)).alloc (.cells #[.slice none 0 0] 22)).alloc (.cells #[downV w.heap.size] 101)) [] := by
    have b0 : Boxed (((w.alloc (.cells #[.slice A p.length c] 22)).alloc (.cells #[.slice none 0 0] 22)).alloc (.cells #[downV w.heap.size] 101)) w.heap.size 22 (.slice A p.length c) := ((Boxed.new w _ _).alloc _).alloc _
    have b1 : Boxed (((w.alloc (.cells #[.slice A p.length c] 22)).alloc (.cells #[.slice none 0 0] 22)).alloc (.cells #[downV w.heap.size] 101)) (w.heap.size + 1) 22 (.slice none 0 0) := by
      have := Boxed.new (w.alloc (.cells #[.slice A p.length c] 22)) 22 (.slice none 0 0)
      rw [World.size_alloc] at this
      exact this.alloc _
    have b2 : Boxed (((w.alloc (.cells #[.slice A p.length c] 22)).alloc (.cells #[.slice none 0 0] 22)).alloc (.cells #[downV w.heap.size] 101)) (w.heap.size + 1 + 1) 101 (downV w.heap.size) := by
      have := Boxed.new ((w.alloc (.cells #[.slice A p.length c] 22)).alloc (.cells #[.slice none 0 0] 22)) 101 (downV w.heap.size)
      rwa [World.size_alloc, World.size_alloc] at this
    have hB : Below w.heap.size w (((w.alloc (.cells #[.slice A p.length c] 22)).alloc (.cells #[.slice none 0 0] 22)).alloc (.cells #[downV w.heap.size] 101)) := (((Below.refl _ _).alloc (Nat.le_refl _) _).alloc (by simp) _).alloc (by simp; omega) _
    exact ⟨⟨⟨_, b1, World.ownsRow_nil _ _ _ _, trivial⟩, hB⟩, b0, b2⟩
  have h1 := hide (h0 _ hW0)
  clear h0 hr hT hW0
  go_enter Tryd.func56, Tryd.ntmps56
  go_wp2_with (go_at_call 81; refine h1.out.mono ?_; rintro e w1 ⟨⟨v1, rfl⟩, ⟨⟨⟨v, hv, hrow, _⟩, hB⟩, _, _⟩, _, _⟩; have hcO := hv.cell; have hrow := hide hrow; have hB := hide hB)
  go_ret
  exact ⟨_, rfl, own_its (l := intN (walkF p m i)) (n := (walkF p m i).length) (intN_length _) (by have h9 := hrow.out; rw [List.nil_append] at h9; exact h9), hB.out⟩

/-- The root. -/
def rootK (p : List Int) : Nat := p.findIdx fun x => x == -1
theorem first_root {p : List Int} (h : rootsF p = 1) : First p (-1) (rootK p) := by
  have h0 : ∃ x ∈ p, x == -1 := by
    refine Classical.byContradiction fun hn => ?_
    have : p.filter (fun x => x == -1) = [] := List.filter_eq_nil_iff.2 fun a ha hb => hn ⟨a, ha, hb⟩
    unfold rootsF at h
    rw [this] at h
    cases h
  have hl := List.findIdx_lt_length_of_exists h0
  refine ⟨hl, ?_, fun j hj => ?_⟩
  · have := List.findIdx_getElem (w := hl)
    show p.getD (p.findIdx fun x => x == -1) 0 = -1
    rw [List.getD_eq_getElem?_getD, List.getElem?_eq_getElem hl]
    simpa using this
  · have := List.not_of_lt_findIdx hj
    rw [List.getD_eq_getElem?_getD, List.getElem?_eq_getElem (by unfold rootK at hj; omega)]
    simpa using this
def rootV (p : List Int) : Int := if rightF p = true then (rootK p : Int) else 0
def treeE (p : List Int) : Int := if rightF p = true then 0 else 15
set_option maxRecDepth 100000 in
theorem grove_root (A : Option Addr) (c : Nat) (p : List Int) (w : World) (hr : Rd w A p.length 1 (ic p)) (hn : p.length ≤ 1000) :
    Calls Tryd.prog 15 #[.slice A p.length c] w fun e w' => e = .returned (.tuple #[.int .i64 (rootV p), .int .i64 (treeE p)]) ∧ Below w.heap.size w w' := by
  have h1 := hide (grove_right A c p w hr hn)
  unfold rootV treeE
  cases hb : rightF p
  · rw [hb] at h1
    simp only [Bool.false_eq_true, if_false]
    go_enter Tryd.func15, Tryd.ntmps15
    go_wp2_with (go_at_call 19; refine h1.out.mono ?_; rintro e w1 ⟨rfl, hb1⟩; have hb1 := hide hb1)
    go_ret2
    exact ⟨rfl, hb1.out⟩
  · have h2 := hide (fun W (h : Below w.heap.size w W) => index_c A c p (-1) (rootK p) W (hr.of_below (Nat.le_refl _) h) hn (first_root (ways_of_right hb).2.2.2))
    rw [hb] at h1
    simp only [if_true]
    go_enter Tryd.func15, Tryd.ntmps15
    go_wp2_with (first
      | (go_at_call 19; refine h1.out.mono ?_; rintro e w1 ⟨rfl, hb1⟩; have h3 := hide (h2.out w1 hb1); have hb1 := hide hb1)
      | (go_at_call 55; refine h3.out.mono ?_; rintro e w2 ⟨rfl, hb2⟩; have hb2 := hide hb2))
    go_ret2
    exact ⟨rfl, bthen hb1.out hb2.out⟩
/-- All sensors, each behind all below it. -/
def orderF (p : List Int) : List Nat := if rightF p = true then walkF p 48 (rootK p) else []
set_option maxRecDepth 100000 in
theorem grove_order (A : Option Addr) (c : Nat) (p : List Int) (w : World) (hr : Rd w A p.length 1 (ic p)) (hn : p.length ≤ 1000) (hT : Tz w) :
    Calls Tryd.prog 16 #[.slice A p.length c] w fun e w' => ∃ v, e = .returned (.tuple #[v, .int .i64 (treeE p)]) ∧ Its w' v (intN (orderF p)) ∧ Below w.heap.size w w' := by
  have h1 := hide (grove_root A c p w hr hn)
  unfold rootV treeE at h1
  unfold orderF treeE
  cases hb : rightF p
  · rw [hb] at h1
    simp only [Bool.false_eq_true, if_false] at h1 ⊢
    go_enter Tryd.func16, Tryd.ntmps16
    go_wp2_with (go_at_call 15; refine h1.out.mono ?_; rintro e w1 ⟨rfl, hb1⟩; have hb1 := hide hb1)
    go_ret2
    exact ⟨_, rfl, Its.nil _, hb1.out⟩
  · obtain ⟨hWy, _, h48, hro⟩ := ways_of_right hb
    have hk := (first_root hro).1
    have h2 := hide (fun W (h : Below w.heap.size w W) => grove_walk A c p 48 (rootK p) W (hr.of_below (Nat.le_refl _) h) h48 (hT.of_below (Nat.le_refl _) h) hWy hk (hgt_of_ways hWy hk).1 (Nat.le_refl _))
    rw [hb] at h1
    simp only [if_true] at h1 ⊢
    go_enter Tryd.func16, Tryd.ntmps16
    go_wp2_with (first
      | (go_at_call 15; refine h1.out.mono ?_; rintro e w1 ⟨rfl, hb1⟩; have h3 := hide (h2.out w1 hb1); have hb1 := hide hb1)
      | (go_at_call 56; refine h3.out.mono ?_; rintro e w2 ⟨v, rfl, hv, hb2⟩; have hb2 := hide hb2; have hv := hide hv))
    go_ret2
    exact ⟨_, rfl, hv.out, bthen hb1.out hb2.out⟩
end Go.Proofs.YtcpakoobgcdekaaDoor

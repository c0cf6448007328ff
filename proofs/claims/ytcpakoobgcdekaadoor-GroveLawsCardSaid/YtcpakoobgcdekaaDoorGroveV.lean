/- The walk of grove.walk: a function within it that calls itself in a range over a function. By the prover of this repo. -/
import Derived.RangeFuncBox
import Derived.Maps.AppendAt
import Derived.Test.YtcpakoobgcdekaaDoorGroveT
namespace Go.Proofs.YtcpakoobgcdekaaDoor
open Go.RowKit Go.Shelf

attribute [local go_sem] Oper.semAt_some

theorem keeps_below1 {W W' : World} (h : Below W.heap.size W W') : KeepsOthers W W' := ⟨h.size, fun k _ hk _ => (h.block k (Array.getElem?_eq_some_iff.1 hk).1).trans hk⟩
theorem infoInt : (Tryd.prog.info? 3).map (fun i => (i.zero, i.size, i.bytes)) = some (some (.int .i64 0), 1, 8) := by kernel_rfl
def intN (l : List Nat) : List Int := l.map fun x : Nat => (x : Int)
theorem intN_append (l m : List Nat) : intN (l ++ m) = intN l ++ intN m := by simp [intN]
theorem intN_length (l : List Nat) : (intN l).length = l.length := by simp [intN]
/-- The closure itself, over its three captured variables. -/
abbrev downV (n₀ : Nat) : Value := .func (.func 81) #[] #[.pointer (some ⟨n₀, 0, none⟩), .pointer (some ⟨n₀ + 2, 0, none⟩), .pointer (some ⟨n₀ + 1, 0, none⟩)]
/-- The world between two calls of the closure: what is told so far. -/
def Wc (A : Option Addr) (c : Nat) (p : List Int) (w0 W : World) (acc : List Nat) : Prop :=
  ((∃ v, Boxed W (w0.heap.size + 1) 22 v ∧ W.ownsRow w0.heap.size 3 1 v acc.length (iv (intN acc)) ∧ True) ∧ Below w0.heap.size w0 W) ∧
    Boxed W w0.heap.size 22 (.slice A p.length c) ∧ Boxed W (w0.heap.size + 2) 101 (downV w0.heap.size)
theorem wc_own {A : Option Addr} {c : Nat} {p : List Int} {w0 : World} {B : Nat} (hB : w0.heap.size ≤ B) : OwnFrom B (fun acc W => Wc A c p w0 W acc) :=
  OwnFrom.and (OwnFrom.and (Own.from (holdsRow_own w0.heap.size (w0.heap.size + 1) 22 3 1 (fun acc : List Nat => acc.length) (fun acc => iv (intN acc)) (fun _ _ => True)) _) (ownFrom_below (Nat.le_refl _) hB))
    (OwnFrom.and (Own.from (boxed_own _ _ (fun _ => Value.slice A p.length c)) _) (Own.from (boxed_own _ _ (fun _ => downV w0.heap.size)) _))
theorem wc_alloc {A : Option Addr} {c : Nat} {p : List Int} {w0 W : World} {acc : List Nat} (h : Wc A c p w0 W acc) (o : Obj) : Wc A c p w0 (W.alloc o) acc := (wc_own (Nat.le_refl _)).alloc o h
theorem ownFrom_keeps {β : Type} {B : Nat} {w₀ : World} (hB : w₀.heap.size ≤ B) : OwnFrom B (fun (_ : β) W => KeepsOthers w₀ W) := fun _ X Y row hs hg hr =>
  ⟨Nat.le_trans hs.size hg.size, fun k o hk ho => (hg.block k (Nat.lt_of_lt_of_le (Array.getElem?_eq_some_iff.1 hk).1 hs.size) (fun e => by have := (hr k e.symm).1; have := (Array.getElem?_eq_some_iff.1 hk).1; omega)).trans (hs.same k o hk ho)⟩

set_option maxRecDepth 100000 in
set_option maxHeartbeats 4000000 in
theorem walk1_c (A : Option Addr) (c : Nat) (p : List Int) (w0 : World) (hn : p.length ≤ 48) (hrd : Rd w0 A p.length 1 (ic p)) (hT : Tz w0) (hWy : Ways p) : ∀ (m i : Nat) (acc : List Nat) (W : World), i < p.length → Hgt p m i → m ≤ 48 → acc.length ≤ (100 - m) * 10000 → Wc A c p w0 W acc →
    Calls Tryd.prog 81 #[.int .i64 i, .pointer (some ⟨w0.heap.size, 0, none⟩), .pointer (some ⟨w0.heap.size + 2, 0, none⟩), .pointer (some ⟨w0.heap.size + 1, 0, none⟩)] W fun e W' => (∃ v, e = .returned v) ∧ Wc A c p w0 W' (acc ++ walkF p m i) ∧ KeepsOthers W W' ∧ Below w0.heap.size W W' := by
  intro m
  induction m using Nat.strongRecOn with
  | ind m ih =>
  intro i acc W hi hg hm hacc hW
  have hweq := hide (walk_eq hg)
  obtain ⟨⟨⟨v0, hvO, hrow, _⟩, hB⟩, hvP, hvD⟩ := hW
  have hW : Wc A c p w0 W acc := ⟨⟨⟨v0, hvO, hrow, trivial⟩, hB⟩, hvP, hvD⟩
  have hcP := hvP.cell
  have hk := hide (grove_kids A c p (i : Int) W (hrd.of_below (Nat.le_refl _) hB) hn)
  have hTW : Tz W := hT.of_below (Nat.le_refl _) hB
  have hTg := hT.2
  obtain ⟨i0, hi0, hz0, hz1', hz2⟩ := info_parts infoInt
  refine (callsIn_wide (n := 9)).1 ?_
  refine callsIn_of_wp_marks Tryd.func81 rfl trivial ?_ rfl
  simp only [Tryd.ntmps81, List.size_toArray, List.length_cons, List.length_nil, Nat.reduceAdd, Nat.reduceSub, Array.replicate_succ, Array.replicate_zero, List.push_toArray, List.append_toArray, List.nil_append, List.cons_append]
  gi_wp2_with (refine ⟨trivial, ?_⟩; first
    | (gi_at_call 59; refine (callsIn_wide.2 hk.out).mono ?_; rintro e w1 ⟨rfl, s, rfl, hs⟩)
    | (gi_at_call 82; refine (callsIn_wide.2 (crew_each _ _)).mono ?_; rintro e w2 ⟨rfl, rfl⟩))
  have hks := kidSet_bits hn hs
  have hs1 := hs.1
  have hn0 : w0.heap.size + 3 ≤ w1.heap.size := by have := hvD.lt; omega
  have hst := each_mem (9 - 1) (by omega) w1.heap.size w0.heap.size s (by omega) s (Nat.mod_eq_of_lt hs1) (w1.alloc (.cells #[.int .u64 (s : Int)] 38)) (by simp) (Boxed.new w1 _ _).cell (hTW.alloc _) hTg
  have hW3 : Wc A c p w0 (w1.alloc (.cells #[.int .u64 (s : Int)] 38)) acc := wc_alloc hW _
  have hz3 : (w1.alloc (.cells #[.int .u64 (s : Int)] 38)).heap.size = w1.heap.size + 1 := by simp
  have hKa : KeepsOthers w1 (w1.alloc (.cells #[.int .u64 (s : Int)] 38)) := KeepsOthers.alloc _ _
  have hBa : Below w0.heap.size w1 (w1.alloc (.cells #[.int .u64 (s : Int)] 38)) := (Below.refl _ _).alloc (by omega) _
  have hkl : (kidsL p (i : Int)).length ≤ 48 := by
    unfold kidsL
    exact Nat.le_trans (List.length_filter_le _ _) (by simpa using hn)
  generalize w1.alloc (.cells #[.int .u64 (s : Int)] 38) = W3 at *
  clear hk hvO hrow hB hvP hvD hcP hTW hs
  have ihH := hide ih
  clear ih
  refine wpIn_rangeFunc_ownG rfl (by omega) (gf := 92) (lb := #[.pointer (some ⟨w1.heap.size, 0, none⟩)]) rfl trivial (enters_of Tryd.func92 (by kernel_rfl) rfl)
    hst belowK_t (belowK_b (by omega)) (Below.refl _ _) (fun _ => rfl)
    (fun pre V => (Wc A c p w0 V (acc ++ (pre.map (·.1)).flatMap (walkF p (m - 1))) ∧ KeepsOthers W3 V ∧ Below w0.heap.size W3 V) ∧ (acc ++ (pre.map (·.1)).flatMap (walkF p (m - 1))).length ≤ acc.length + 48 * pre.length)
    (fun _ _ _ => False)
    (fun pre X Y row h hg' hr => ⟨⟨wc_own (by omega) _ X Y row h.1.1 hg' hr, ownFrom_keeps (β := Unit) (Nat.le_refl _) () X Y row h.1.2.1 hg' hr, ownFrom_below (β := Unit) (by omega) (by omega) () X Y row h.1.2.2 hg' hr⟩, h.2⟩)
    (fun _ _ _ _ _ h _ _ => h)
    ⟨⟨by simpa using hW3, KeepsOthers.refl _, Below.refl _ _⟩, by simp⟩
    (fun x => { tmps := #[.int .i64 i, .pointer (some ⟨w0.heap.size, 0, none⟩), .pointer (some ⟨w0.heap.size + 2, 0, none⟩), .pointer (some ⟨w0.heap.size + 1, 0, none⟩), undef, .int .i64 (x.1 : Int), .slice A p.length c, .int .i64 i, .int .u64 s, .func (.func 92) #[] #[.pointer (some ⟨w1.heap.size, 0, none⟩)], .int .i64 (x.1 : Int), undef, undef, undef, undef, undef, undef, undef], defers := [] }) ?assign ?body ?done ?stop
  case assign =>
    intro l x V K hK
    dsimp only [encM]
    gi_wp2
    exact hK
  case body =>
    rintro l pre ⟨x, hx⟩ V ⟨⟨hWc, hKO, hBl⟩, hlen⟩ hlt
    have hxk : x ∈ kidsL p (i : Int) := hks ▸ hx
    obtain ⟨hm1, hgx⟩ := hgt_kid hg hxk
    have hx1 := (kidsL_mem.1 hxk).1
    have hwl := walk_length hWy hn hx1 hgx
    have hcall := hide (ihH.out (m - 1) (by omega) x _ V hx1 hgx (by omega) (by omega) hWc)
    have hcD := hWc.2.2.cell
    have hsn : Hid (acc ++ ((pre ++ [(⟨x, hx⟩ : Mb s)]).map (·.1)).flatMap (walkF p (m - 1)) = (acc ++ (pre.map (·.1)).flatMap (walkF p (m - 1))) ++ walkF p (m - 1) x) := by show _ = _; simp
    have hKO := hide hKO
    have hBl := hide hBl
    clear hWc
    gi_wp2_with (refine ⟨trivial, ?_⟩; gi_at_call 81; refine (CallsIn.inRound l (callsIn_wide.2 hcall.out)).mono ?_; rintro e w4 ⟨⟨v4, rfl⟩, hWc4, hK4, hB4⟩; have hWc4 := hide hWc4; have hK4 := hide hK4; have hB4 := hide hB4)
    exact ⟨hK4.out.from _, hB4.out, ⟨by rw [hsn.out]; exact hWc4.out, hKO.out.trans hK4.out, hBl.out.trans hB4.out⟩, by rw [hsn.out, List.length_append, List.length_append (bs := [_])]; simp only [List.length_cons, List.length_nil]; omega⟩
  case done =>
    rintro D ys V hD hys ⟨⟨hWc, hKO, hBl⟩, hlen⟩ hK
    have hyl : ys.length = (kidsL p (i : Int)).length := by rw [← hks, ← hys, List.length_map]
    rw [hys, hks] at hWc hlen
    obtain ⟨⟨⟨v, hv, hrow, _⟩, hBV⟩, hvP2, hvD2⟩ := hWc
    have hcO := hv.cell
    have hzV := hBV.size
    have hfin : Hid (acc ++ walkF p m i = (acc ++ (kidsL p (i : Int)).flatMap (walkF p (m - 1))) ++ [i]) := by show _ = _; rw [hweq.out]; simp
    generalize acc ++ (kidsL p (i : Int)).flatMap (walkF p (m - 1)) = T at *
    have hKO := hide hKO
    have hBl := hide hBl
    have hBV := hide hBV
    clear hys hst hks hW3
    gi_wp2_with (gi_at_builtin; refine wpListIn_append_own _ rfl _ _ 22 rfl w0.heap.size 3 i0 (.int .i64 0) 1 8 Tryd.underlying22 hi0 hz0 hz1' hz2 rfl (by decide) _ _ _ rfl (hrow.alloc _) ⟨V.heap.size, 0, none⟩ 1 1 [.int .i64 (i : Int)] rfl rfl (cell_one_new _ _ _) (by simp [Value.oneCell']) (by unfold maxLen; omega) (by omega) (by simp; omega) ?_; intro v' w9 hown' hgrow _; obtain ⟨g', cap', rfl⟩ := ownsRow_succ hown'; obtain ⟨hv1, hv2, hr2, hk2, hb2⟩ := hv.appended (by decide) hrow hzV (by omega) hown' hgrow; have hc1 := hv1.cell; have hf1 := hv1.frozen)
    have hP3 := ((hvP2.alloc _).kept hgrow (hvP2.not_row (by decide) hrow)).other (B' := w0.heap.size + 1) (by omega) (.slice (some ⟨g', 0, none⟩) (T.length + 1) cap')
    have hD3 := ((hvD2.alloc _).kept hgrow (hvD2.not_row (by decide) hrow)).other (B' := w0.heap.size + 1) (by omega) (.slice (some ⟨g', 0, none⟩) (T.length + 1) cap')
    have hK' := hk2.same D _ hK rfl
    refine ⟨by simp, .inl ⟨_, _, rfl, run_takeDeferred hK', ?_⟩⟩
    refine ⟨_, results_none rfl _ _ _, ⟨_, rfl⟩, ?_, ?_, ?_⟩
    · refine (wc_own (B := W3.heap.size) (by omega)).putObj _ ?_ hD hK' rfl
      rw [hfin.out]
      exact ⟨⟨⟨_, hv2, by simpa [intN, iv] using hr2, trivial⟩, hBV.out.trans hb2⟩, hP3, hD3⟩
    · exact (ownFrom_keeps (β := Unit) (B := W3.heap.size) (w₀ := w1) (by omega)).putObj (s := ()) _ ((hKa.trans hKO.out).trans hk2) hD hK' rfl
    · exact (ownFrom_below (β := Unit) (B := W3.heap.size) (w₀ := w1) (by omega) (by omega)).putObj (s := ()) _ ((hBa.trans hBl.out).trans hb2) hD hK' rfl
  case stop =>
    rintro D c pre W _ _ h _
    exact h.elim
end Go.Proofs.YtcpakoobgcdekaaDoor

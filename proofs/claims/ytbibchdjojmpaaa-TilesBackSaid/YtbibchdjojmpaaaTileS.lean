/- The walks of layer 5, on: nodes by their least values: the order's closure, the sort. By the prover of this repo. -/
import Derived.Test.YtbibchdjojmpaaaTileW
import Derived.Test.YtbibchdjojmpaaaSortL
import Derived.Shelf.SlSortCmp.NoneTotal
import Derived.BigQuiet
import Derived.Deep.QuietTactic
namespace Go.Proofs.Ytbibchdjojmpaaa
open Go.RowKit
open TwigM TileM

/-- What the order's closure tells of two nodes. -/
def cmpF (L x y : Int) : Int := if lo L x = lo L y then x - y else lo L x - lo L y
theorem closure_c (L x y : Int) (p : Nat) (W : World) (hx : Nd L x) (hy : Nd L y) (hp : W.cell? ⟨p, 0, none⟩ = some (.int .i64 L)) :
    Calls Try.prog 47 #[.int .i64 x, .int .i64 y, .pointer (some ⟨p, 0, none⟩)] W fun e w' => e = .returned (.int .i64 (cmpF L x y)) ∧ ∃ q, w' = W.drewN q := by
  have e1 : (endsF L x).1 = lo L x := by unfold endsF; rw [if_pos (right_iff.2 ⟨hx.l1, hx.l2, hx.a, hx.b⟩)]; rfl
  have e2 : (endsF L y).1 = lo L y := by unfold endsF; rw [if_pos (right_iff.2 ⟨hy.l1, hy.l2, hy.a, hy.b⟩)]; rfl
  have h1 := fun W => first_c L x W
  have h2 := fun W => first_c L y W
  rw [e1] at h1
  rw [e2] at h2
  have b1 := node_range hx
  have b2 := node_range hy
  have b3 := lo_le_hi hx
  have b4 := lo_le_hi hy
  have b5 := pw_le48 hx.l2
  have b6 := hx.a
  have b7 := hx.b
  have b8 := hy.a
  have b9 := hy.b
  unfold cmpF
  generalize lo L x = u at *
  generalize lo L y = v at *
  replace h1 := hide h1
  replace h2 := hide h2
  clear hx hy e1 e2
  by_cases huv : u = v
  · rw [if_pos huv]
    subst huv
    go_enter Try.func47, Try.ntmps47
    go_wp2_with fail
    go_quiet (first | (go_at_call_of 48 (Value.int .i64 x); exact Calls.quiet_of (h1.out _)) | (go_at_call 48; exact Calls.quiet_of (h2.out _)))
    go_wp2_with fail
    go_ret
    exact ⟨rfl, nq, rfl⟩
  · rw [if_neg huv]
    go_enter Try.func47, Try.ntmps47
    go_wp2_with fail
    go_quiet (first | (go_at_call_of 48 (Value.int .i64 x); exact Calls.quiet_of (h1.out _)) | (go_at_call 48; exact Calls.quiet_of (h2.out _)))
    go_wp2_with fail
    go_ret
    exact ⟨rfl, nq, rfl⟩

/-- A node of L bits. -/
abbrev NdT (L : Int) := { id : Int // Nd L id }
def encN {L : Int} (x : NdT L) : Value := .int .i64 x.1
def cmpN (L : Int) (x y : NdT L) : Int := cmpF L x.1 y.1
open Go.Shelf Go.Lib Go.Sort in
theorem ltN {L : Int} (x y : NdT L) : ltOf (cmpN L) x y = decide (lo L x.1 < lo L y.1 ∨ (lo L x.1 = lo L y.1 ∧ x.1 < y.1)) := by
  unfold ltOf cmpN cmpF
  refine decide_eq_decide.2 ?_
  split <;> omega
open Go.Shelf Go.Lib Go.Sort in
theorem swoN (L : Int) : SWO (ltOf (cmpN L)) where
  irrefl x := by rw [ltN]; simp
  trans x y z h1 h2 := by rw [ltN] at *; simp only [decide_eq_true_eq] at *; omega
  ntrans x y z h1 h2 := by rw [ltN] at *; simp only [decide_eq_false_iff_not] at *; omega
open Go.Shelf Go.Lib Go.Sort in
theorem totN (L : Int) (x y : NdT L) (h1 : ltOf (cmpN L) x y = false) (h2 : ltOf (cmpN L) y x = false) : x = y := by
  rw [ltN] at *
  simp only [decide_eq_false_iff_not] at *
  exact Subtype.ext (by omega)

open Go.Shelf Go.Lib Go.Sort in
theorem sorted_below {α : Type} [Inhabited α] (enc : α → Value) {w : World} {base blk off n : Nat} {os : Array Obj} (d : Array α) (hb : base ≤ blk) (hw : base ≤ w.heap.size) : Go.RowKit.Below base w (sortWorld enc w blk off n d os) := by
  refine ⟨rfl, rfl, rfl, by simp [sortWorld, grow, putRow, mapBlock, Sort.ahead], fun k hk => ?_⟩
  unfold sortWorld
  rw [heap_grow_old _ _ (by simp [putRow, mapBlock, Sort.ahead]; omega)]
  have : blk ≠ k := by omega
  simp [putRow, mapBlock, Sort.ahead, Array.getElem?_modify, this]

open Go.Shelf Go.Lib Go.Sort in
set_option maxHeartbeats 1000000 in
theorem sort_c (L : Int) (p base : Nat) (v : Value) (l : List Int) (w : World) (hN : ∀ x ∈ l, Nd L x) (hl : l.length ≤ 1000000) (how : w.ownsRow base 3 1 v l.length (iv l)) (hp : w.cell? ⟨p, 0, none⟩ = some (.int .i64 L)) (hpb : p < base) (hbw : base ≤ w.heap.size) :
    Calls Try.prog 46 #[v, .func (.func 47) #[] #[.pointer (some ⟨p, 0, none⟩)]] w fun e w' =>
      e = .returned (.tuple #[]) ∧ ∃ l', (∀ t, t ∈ l' ↔ t ∈ l) ∧ l'.length = l.length ∧ l'.Pairwise (TileM.Before L) ∧ Its w' v l' ∧ Go.RowKit.Below base w w' := by
  obtain ⟨A, c, rfl, h1, h2, h3⟩ := own_form how
  have hrd := own_its rfl how
  obtain ⟨A', c', e, _, _, _, hr⟩ := hrd
  injection e with e1 e2 e3
  subst e1 e3
  cases l with
  | nil =>
    refine (AnyF.slices_SortFunc_none (P := Try.prog) (ρ := Try.sortL_ren) { Try.sortL with } A c _ w).mono ?_
    rintro e w' ⟨rfl, rfl⟩
    exact ⟨rfl, [], fun t => Iff.rfl, rfl, List.Pairwise.nil, ⟨A, c, rfl, h1, h2, h3, hr⟩, Go.RowKit.Below.refl _ _⟩
  | cons x0 l0 =>
    generalize hle : x0 :: l0 = l at *
    obtain ⟨blk, off, rfl, hb, hc⟩ := hr (by rw [← hle]; simp)
    obtain ⟨xs, rest⟩ := how
    have hgb : base ≤ blk ∧ off = 0 ∧ ∀ j, w.frozen? ⟨blk, j, none⟩ = false := by
      rcases rest with ⟨h, _⟩ | ⟨g, cap, cur, h, hg, hh, _⟩
      · cases h
      · injection h with h _ _
        injection h with h
        injection h with ha hb' hc'
        subst ha hb'
        exact ⟨hg, rfl, fun j => by simp [World.frozen?, hh]⟩
    obtain ⟨hbb, rfl, hfz⟩ := hgb
    letI : Inhabited (NdT L) := ⟨⟨x0, hN x0 (by rw [← hle]; simp)⟩⟩
    let d : Array (NdT L) := (l.pmap Subtype.mk hN).toArray
    have hd : d.size = l.length := by simp [d]
    have hdj : ∀ j (h : j < l.length), (d[j]!).1 = l[j] := fun j h => by
      rw [getElem!_pos d j (by omega)]
      simp [d]
    have hH : Holds (encN (L := L)) w blk 0 d := fun j hj => by
      rw [hd] at hj
      refine ⟨?_, hfz _⟩
      rw [hc j (by omega)]
      show some (ic l j) = some (.int .i64 (d[j]!).1)
      rw [hdj j hj]
      simp [ic, hj]
    have eg : ∀ args w, (callFunc 47 args).run Try.prog w = .ok (.enter 47 args) w := enters_of Try.func47 (by kernel_rfl) rfl
    have hcmp : CmpReads Try.prog 47 #[.pointer (some ⟨p, 0, none⟩)] (encN (L := L)) (cmpN L) blk 0 d.size w := fun m os dk hdk x y => by
      refine closure_c L x.1 y.1 p _ x.2 y.2 ?_
      unfold sortWorld
      rw [cell?_grow _ _ _ (by simp [putRow, mapBlock, Sort.ahead]; omega), cell?_putRow_other _ _ _ _ _ _ (.inl (by show p ≠ blk; omega))]
      exact hp
    have hS := Any.slices_SortFunc_total Try.sortL (encN (L := L)) (fun _ => rfl) (cmpN L) (swoN L) 47 _ blk 0 c d w eg hcmp.lays hH hb (by omega) (totN L)
    rw [hd] at hS
    refine hS.mono ?_
    rintro e w' ⟨rfl, n, os, rfl⟩
    generalize hs : d.toList.mergeSort (fun x y => !(ltOf (cmpN L)) y x) = s at *
    have hperm : s.Perm d.toList := by rw [← hs]; exact List.mergeSort_perm _ _
    have hpw : s.Pairwise fun x y => (!(ltOf (cmpN L)) y x) = true := by
      rw [← hs]
      refine List.pairwise_mergeSort ?_ ?_ _
      · intro a b c h1 h2
        rw [ltN] at *
        simp only [Bool.not_eq_true', decide_eq_false_iff_not] at *
        omega
      · intro a b
        rw [ltN, ltN]
        simp only [Bool.or_eq_true, Bool.not_eq_true', decide_eq_false_iff_not]
        omega
    have hsl : s.length = l.length := by rw [hperm.length_eq]; simp [d]
    refine ⟨rfl, s.map (·.1), fun t => ?_, by simp [hsl], ?_, ?_, ?_⟩
    · rw [(hperm.map (·.1)).mem_iff]
      simp [d]
      exact fun h => hN t h
    · refine List.pairwise_map.2 (hpw.imp ?_)
      intro x y h
      rw [ltN] at h
      simp only [Bool.not_eq_true', decide_eq_false_iff_not] at h
      unfold TileM.Before
      omega
    · refine ⟨some ⟨blk, 0, none⟩, c, by simp [hsl], (fun h => by cases h), by simp [hsl]; exact h2, h3, fun _ => ⟨blk, 0, rfl, ?_, fun j hj => ?_⟩⟩
      · simp [sortWorld, grow, putRow, mapBlock, Sort.ahead]; omega
      · unfold sortWorld
        rw [cell?_grow _ _ _ (by simp [putRow, mapBlock, Sort.ahead]; omega)]
        have hj2 : j < s.length := by simpa using hj
        rw [cell?_putRow (encN (L := L)) (Sort.ahead w n) blk 0 d s.toArray hH (by simp [hsl, hd]) j (by simpa using hj2)]
        rw [getElem!_pos s.toArray j (by simpa using hj2)]
        simp [ic, encN, hj2]
    · exact sorted_below _ _ hbb hbw
end Go.Proofs.Ytbibchdjojmpaaa

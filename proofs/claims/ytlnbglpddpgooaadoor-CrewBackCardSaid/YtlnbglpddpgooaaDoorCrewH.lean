/- The law CrewEach, walked. By the prover of this repo. -/
import Derived.Test.YtlnbglpddpgooaaDoorCrewE
import Derived.Lib.MinMax
namespace Go.Proofs.YtlnbglpddpgooaaDoor
open Go.RowKit Go.Shelf

attribute [local go_sem] Oper.semAt_some

theorem bitsL_mod (s : Nat) : bitsL (s % 281474976710656) = bitsL s := by
  unfold bitsL
  apply List.filter_congr
  intro i hi
  have h : (s % 281474976710656).testBit i = (decide (i < 48) && s.testBit i) := Nat.testBit_mod_two_pow s 48 i
  rw [h, decide_eq_true (by simpa using hi), Bool.true_and]
theorem pre_snoc {P L : List Nat} {x : Nat} (h : P <+: L) (hk : P.length < L.length) (hx : L.getD P.length 0 = x) : P ++ [x] <+: L := by
  obtain ⟨T, rfl⟩ := h
  cases T with
  | nil => simp at hk
  | cons t T =>
    have : t = x := by simpa using hx
    subst this
    exact ⟨T, by simp⟩
theorem pre_not {P L : List Nat} {x : Nat} (hk : L.length ≤ P.length) : ¬ P ++ [x] <+: L := fun h => by
  have := h.length_le
  simp at this
  omega
theorem pre_ne {P L : List Nat} {x : Nat} (hx : L.getD P.length 0 ≠ x) : ¬ P ++ [x] <+: L := by
  rintro ⟨T, rfl⟩
  simp at hx
theorem ic_intL (L : List Nat) (k : Nat) : ic (intL L) k = .int .i64 ((L.getD k 0 : Nat) : Int) := by
  unfold ic intL
  by_cases h : k < L.length
  · simp [h]
  · simp [h]
theorem below_set {n₀ : Nat} (W : World) (b : Nat) (v : Value) (hn : n₀ ≤ W.heap.size) (hb : n₀ ≤ b) : Below n₀ W (W.setCell ⟨b, 0, none⟩ v) := (Below.refl n₀ W).grown (grownBy_setCell' W b v) hn (fun k e => by cases e; exact hb)
theorem intL_length' (l : List Nat) : (intL l).length = l.length := by unfold intL; rw [List.length_map]
set_option maxRecDepth 100000 in
set_option maxHeartbeats 4000000 in
theorem crewEach_walk (bits most : Int) (w : World) (hT : Tz w) (hb : 0 ≤ bits ∧ bits ≤ 18446744073709551615) (hm : -9223372036854775808 ≤ most ∧ most ≤ 9223372036854775807) :
    Calls Tryd.prog 3 #[.int .u64 bits, .int .i64 most] w fun e w' => e = .returned (.bool true) ∧ Below w.heap.size w w' := by
  obtain ⟨s, rfl⟩ := Int.eq_ofNat_of_zero_le hb.1
  have hs : s < 18446744073709551616 := by omega
  clear hb
  have c8 := hide (ref27_list s hs ((w.alloc (.cells #[.int .i64 most] 3)).alloc (.cells #[.bool false] 4)))
  have hnil : ∀ (x : Option Addr) (W : World), (binOp BinOp.eql 26 (.func (.func 30) #[] #[.pointer x]) .nilFunc).run Tryd.prog W = .ok (.bool false) W := fun _ _ => by kernel_rfl
  refine (callsIn_wide (n := 9)).1 ?_
  refine callsIn_of_wp_marks Tryd.func3 rfl trivial ?_ rfl
  simp only [Tryd.ntmps3, List.size_toArray, List.length_cons, List.length_nil, Nat.reduceAdd, Nat.reduceSub, Array.replicate_succ, Array.replicate_zero, List.push_toArray, List.append_toArray, List.nil_append, List.cons_append]
  gi_wp2_with (refine ⟨trivial, ?_⟩; first
    | (gi_at_call 8; refine (callsIn_wide.2 c8.out).mono ?_; rintro e w2 ⟨v, rfl, ⟨A2, cc, rfl, hA2, hcc, hcm, hrd⟩, hb2⟩; have hb2 := hide hb2; have hrd := hide hrd)
    | (gi_at_call 9; refine (callsIn_wide.2 (crew_each _ _)).mono ?_; rintro e w1 ⟨rfl, rfl⟩))
  have hlenL := intL_length' (bitsL s)
  rw [hlenL] at hA2 hcc hrd ⊢
  have hl48 := bitsL_length s
  obtain ⟨W1, hW1⟩ : ∃ W1, W1 = w2.alloc (.cells #[.slice A2 (bitsL s).length cc] 23) := ⟨_, rfl⟩
  have hz2 : w.heap.size + 2 ≤ w2.heap.size := by have := hb2.out.size; simpa using this
  -- the five blocks
  have bM : Boxed w2 w.heap.size 3 (.int .i64 most) := by
    have h0 : Boxed ((w.alloc (.cells #[.int .i64 most] 3)).alloc (.cells #[.bool false] 4)) w.heap.size 3 (.int .i64 most) := (Boxed.new w _ _).alloc _
    exact (hb2.out.block _ (by simp; omega)).trans h0
  have bR : Boxed w2 (w.heap.size + 1) 4 (.bool false) := by
    have h0 : Boxed ((w.alloc (.cells #[.int .i64 most] 3)).alloc (.cells #[.bool false] 4)) (w.heap.size + 1) 4 (.bool false) := by
      have := Boxed.new (w.alloc (.cells #[.int .i64 most] 3)) 4 (.bool false)
      rwa [World.size_alloc] at this
    exact (hb2.out.block _ (by simp)).trans h0
  have hBw : Below w.heap.size w w2 := bthen ((balloc0 w _).trans ((Below.refl _ _).alloc (by simp) _)) hb2.out
  have bL : Boxed (w2.alloc (.cells #[.slice A2 (bitsL s).length cc] 23)) w2.heap.size 23 (.slice A2 (bitsL s).length cc) := Boxed.new w2 _ _
  have bN : Boxed ((w2.alloc (.cells #[.slice A2 (bitsL s).length cc] 23)).alloc (.cells #[.int .i64 0] 3)) (w2.heap.size + 1) 3 (.int .i64 0) := by
    have := Boxed.new (w2.alloc (.cells #[.slice A2 (bitsL s).length cc] 23)) 3 (.int .i64 0)
    rwa [World.size_alloc] at this
  have bE : Boxed (((w2.alloc (.cells #[.slice A2 (bitsL s).length cc] 23)).alloc (.cells #[.int .i64 0] 3)).alloc (.cells #[.int .u64 (s : Int)] 27)) (w2.heap.size + 1 + 1) 27 (.int .u64 (s : Int)) := by
    have := Boxed.new ((w2.alloc (.cells #[.slice A2 (bitsL s).length cc] 23)).alloc (.cells #[.int .i64 0] 3)) 27 (.int .u64 (s : Int))
    rwa [World.size_alloc, World.size_alloc] at this
  have hB3 : Below w2.heap.size w2 (((w2.alloc (.cells #[.slice A2 (bitsL s).length cc] 23)).alloc (.cells #[.int .i64 0] 3)).alloc (.cells #[.int .u64 (s : Int)] 27)) := (((Below.refl _ _).alloc (Nat.le_refl _) _).alloc (by simp) _).alloc (by simp; omega) _
  generalize hW3 : (((w2.alloc (.cells #[.slice A2 (bitsL s).length cc] 23)).alloc (.cells #[.int .i64 0] 3)).alloc (.cells #[.int .u64 (s : Int)] 27)) = W3 at *
  have hz3 : w2.heap.size + 3 ≤ W3.heap.size := by rw [← hW3]; simp
  have bL3 : Boxed W3 w2.heap.size 23 (.slice A2 (bitsL s).length cc) := by rw [← hW3]; exact (bL.alloc _).alloc _
  have bN3 : Boxed W3 (w2.heap.size + 1) 3 (.int .i64 0) := by rw [← hW3]; exact bN.alloc _
  have hTg := hT.2
  have hT2 : Tz w2 := hT.of_below (Nat.le_refl _) hBw
  have hT3 : Tz W3 := tz_low hT2 (by omega) hB3
  have hlow : ∀ W, Below w2.heap.size w2 W → W.cell? ⟨w.heap.size, 0, none⟩ = some (.int .i64 most) ∧ Boxed W (w.heap.size + 1) 4 (.bool false) ∧ Tz W := fun W hB => ⟨Boxed.cell (show Boxed W w.heap.size 3 (.int .i64 most) from (hB.block w.heap.size (by omega)).trans bM), (hB.block (w.heap.size + 1) (by omega)).trans bR, tz_low hT2 (by omega) hB⟩
  have hrdH := hide (fun (W : World) (hB : Below w2.heap.size w2 W) (k : Nat) (hk : k < (bitsL s).length) => show ∃ b off, A2 = some ⟨b, off, none⟩ ∧ W.cell? ⟨b, off + k, none⟩ = some (.int .i64 (((bitsL s).getD k 0 : Nat) : Int)) from by
    obtain ⟨b, off, hA, hb, hc⟩ := hrd.out (by omega)
    have := hc k (by omega)
    rw [ic_intL] at this
    exact ⟨b, off, hA, (hB.cell (p := ⟨b, off + k, none⟩) hb).trans this⟩)
  have hmod := bitsL_mod s
  have hst := each_stops (9 - 1) (by omega) (w2.heap.size + 1 + 1) w2.heap.size s hs W3 (by omega) bE.cell hT3 (by omega)
  rw [hmod] at hst
  clear bM bR bL bN bE c8 hnil hT hT3 hW3 hW1 hrd hmod hcc hcm
  generalize hLL : bitsL s = L at *
  clear hLL
  refine wpIn_rangeFunc_ownG rfl (by omega) (gf := 30) (lb := #[.pointer (some ⟨w2.heap.size + 1 + 1, 0, none⟩)]) rfl trivial (enters_of Tryd.func30 (by kernel_rfl) rfl)
    hst belowK_t (belowK_b (by omega)) (Below.refl _ _) (fun _ => rfl)
    (fun pre W => (pre.map (·.1) <+: L ∧ (pre.length : Int) ≤ max most 0) ∧ Boxed W w2.heap.size 23 (.slice A2 L.length cc) ∧ Boxed W (w2.heap.size + 1) 3 (.int .i64 (pre.length : Int)) ∧ Below w2.heap.size w2 W)
    (fun c pre W => (c = .ret ∧ ¬ pre.map (·.1) <+: L) ∨ (c = .exit 0 ∧ ∃ k : Nat, pre.length = k + 1 ∧ (k : Int) = max most 0 ∧ Boxed W w2.heap.size 23 (.slice A2 L.length cc) ∧ Boxed W (w2.heap.size + 1) 3 (.int .i64 (k : Int)) ∧ Below w2.heap.size w2 W))
    (fun pre A B row hs hg hr => ⟨hs.1, boxed_own _ _ (fun _ : Unit => _) () A B row hs.2.1 hg (fun r e => (hr r e).2), boxed_own _ _ (fun _ : Unit => _) () A B row hs.2.2.1 hg (fun r e => (hr r e).2), ownFrom_below (β := Unit) (Nat.le_refl _) (by omega) () A B row hs.2.2.2 hg hr⟩)
    (fun c pre A B row hs hg hr => hs.imp id (fun ⟨h1, k, h2, h3, h4, h5, h6⟩ => ⟨h1, k, h2, h3, boxed_own _ _ (fun _ : Unit => _) () A B row h4 hg (fun r e => (hr r e).2), boxed_own _ _ (fun _ : Unit => _) () A B row h5 hg (fun r e => (hr r e).2), ownFrom_below (β := Unit) (Nat.le_refl _) (by omega) () A B row h6 hg hr⟩))
    ⟨⟨List.nil_prefix, by simp; omega⟩, bL3, bN3, hB3⟩
    (fun x => { tmps := ((.int .u64 s : Value) :: (.int .i64 most : Value) :: undef :: (.pointer (some ⟨w.heap.size, 0, none⟩) : Value) :: (.pointer (some ⟨w.heap.size + 1, 0, none⟩) : Value) :: (.pointer (some ⟨w2.heap.size, 0, none⟩) : Value) :: (.pointer (some ⟨w2.heap.size + 1, 0, none⟩) : Value) :: (.func (.func 30) #[] #[.pointer (some ⟨w2.heap.size + 1 + 1, 0, none⟩)] : Value) :: (.int .i64 (x.1 : Int) : Value) :: (.int .u64 s : Value) :: (.slice A2 L.length cc : Value) :: (.int .u64 s : Value) :: (.func (.func 30) #[] #[.pointer (some ⟨w2.heap.size + 1 + 1, 0, none⟩)] : Value) :: (.func (.func 30) #[] #[.pointer (some ⟨w2.heap.size + 1 + 1, 0, none⟩)] : Value) :: (.bool false : Value) :: (.func (.func 30) #[] #[.pointer (some ⟨w2.heap.size + 1 + 1, 0, none⟩)] : Value) :: (.int .i64 (x.1 : Int) : Value) :: undef :: undef :: undef :: undef :: undef :: undef :: undef :: undef :: undef :: undef :: undef :: undef :: undef :: undef :: undef :: undef :: undef :: undef :: undef :: undef :: undef :: undef :: undef :: undef :: undef :: undef :: undef :: []).toArray, defers := [] }) ?assign ?body ?done ?stop
  case assign =>
    intro l x W K hK
    dsimp only [encS]
    gi_wp2
    exact hK
  case body =>
    rintro l pre x W ⟨⟨hpre, hpm⟩, hvL, hvN, hB⟩ hlt
    obtain ⟨hcM, hvR, _⟩ := hlow W hB
    have hcL := hvL.cell
    have hcN := hvN.cell
    have hfN := hvN.frozen
    have hcR := hvR.cell
    have hfR := hvR.frozen
    have hzW := hB.size
    have hplen : (pre.map (·.1)).length = pre.length := List.length_map ..
    have hmap : Hid ((pre ++ [x]).map (·.1) = pre.map (·.1) ++ [x.1]) := by show _ = _; rw [List.map_append]; rfl
    obtain ⟨k, hk⟩ : ∃ k, pre.length = k := ⟨_, rfl⟩
    rw [hk] at hplen hpm hcN hvN hlt
    have hk1 : Hid ((pre ++ [x]).length = k + 1) := by show _ = _; rw [List.length_append, hk]; rfl
    by_cases hge : most ≤ (k : Int)
    · gi_wp2
      exact ⟨KeepsFrom.refl _ _, .inr ⟨rfl, k, hk1.out, by omega, hvL, hvN, hB⟩⟩
    · have hlen48 : L.length ≤ 48 := hl48
      by_cases hin : k < L.length
      · obtain ⟨b, off, rfl, hc⟩ := hrdH.out W hB k hin
        obtain ⟨y, hy⟩ : ∃ y, L.getD k 0 = y := ⟨_, rfl⟩
        rw [hy] at hc
        by_cases hxy : y = x.1
        · subst hxy
          have hnew : Hid ((pre ++ [x]).map (·.1) <+: L) := by show _ <+: _; rw [hmap.out]; exact pre_snoc hpre (by omega) (by rw [hplen]; exact hy)
          have hmH := hide hpm
          clear hmap hpre hy
          gi_wp2
          exact ⟨(KeepsOthers.setCell _ _ _).from _, below_set W _ _ hzW (by omega), ⟨hnew.out, by rw [hk1.out]; omega⟩, hvL.other (by omega) _, by rw [hk1.out]; exact hvN.set _, hB.trans (below_set W _ _ hzW (by omega))⟩
        · have hnew : Hid (¬ (pre ++ [x]).map (·.1) <+: L) := by show ¬ _; rw [hmap.out]; exact pre_ne (by rw [hplen, hy]; exact hxy)
          have hxy2 : ((y : Int) == (x.1 : Int)) = false := by simp; omega
          have hxy3 : ((y : Int) != (x.1 : Int)) = true := by simp; omega
          clear hmap hpre hy
          gi_wp2
          exact ⟨(KeepsOthers.setCell _ _ _).from _, .inl ⟨rfl, hnew.out⟩⟩
      · have hnew : Hid (¬ (pre ++ [x]).map (·.1) <+: L) := by show ¬ _; rw [hmap.out]; exact pre_not (by omega)
        clear hmap hpre
        gi_wp2
        exact ⟨(KeepsOthers.setCell _ _ _).from _, .inl ⟨rfl, hnew.out⟩⟩
  case done =>
    rintro D ys W hD hys ⟨⟨hpre, hpm⟩, hvL, hvN, hB⟩ hK
    have hk : ys.length = L.length := by rw [← hys, List.length_map]
    rw [hk] at hvN hpm
    obtain ⟨M, hM⟩ : ∃ M, max most 0 = M := ⟨_, rfl⟩
    rw [hM] at hpm
    have hmn : min M (L.length : Int) = (L.length : Int) := by omega
    clear hpm hk
    obtain ⟨hcM, hvR, hTW⟩ := hlow W hB
    have hcL := hvL.cell
    have hcN := hvN.cell
    have hA := hide (alive27 W hTW)
    have hBH := hide hB
    clear hB hys hpre hvL hvN
    gi_wp2_with (refine ⟨trivial, ?_⟩; gi_at_call 10; refine (callsIn_wide.2 hA.out).mono ?_; rintro e w5 ⟨rfl, hb5⟩; have hvR5 : Boxed w5 (w.heap.size + 1) 4 (.bool false) := (hb5.block _ hvR.lt).trans hvR; have hcR5 := hvR5.cell; have hfR5 := hvR5.frozen; have hb5 := hide hb5)
    have hK5 := (hb5.out.block D (Array.getElem?_eq_some_iff.1 hK).1).trans hK
    have hK' := (KeepsOthers.setCell w5 ⟨w.heap.size + 1, 0, none⟩ (.bool true)).same D _ hK5 rfl
    refine ⟨by simp, .inl ⟨_, _, rfl, run_takeDeferred hK', ?_⟩⟩
    have hc5 := ((hvR5.set (.bool true)).kept (grownBy_putObj' _ D (.deferred none)) (by intro e; cases e; omega)).cell
    refine ⟨.bool true, by simp [results, Tryd.results3, go_sem, hc5], rfl, ?_⟩
    have q1 : Below w.heap.size w w5 := (hBw.trans (hBH.out.mono (by omega))).trans (hb5.out.mono (by have := hBH.out.size; omega))
    exact (q1.trans (below_set w5 _ _ q1.size (by omega))).trans (belowK_b (w := w) (Nat.le_refl _) _ D _ _ (by omega) hK' rfl rfl)
  case stop =>
    rintro D c pre W hD hSp hIx hK
    rcases hIx with ⟨rfl, hno⟩ | ⟨rfl, k, hk, hkm, hvL, hvN, hB⟩
    · exact absurd hSp hno
    have hkl := hSp.length_le
    rw [List.length_map, hk] at hkl
    obtain ⟨M, hM⟩ : ∃ M, max most 0 = M := ⟨_, rfl⟩
    rw [hM] at hkm
    have hmn : min M (L.length : Int) = (k : Int) := by omega
    clear hkl hk hkm
    obtain ⟨hcM, hvR, hTW⟩ := hlow W hB
    have hcL := hvL.cell
    have hcN := hvN.cell
    have hA := hide (alive27 W hTW)
    have hBH := hide hB
    clear hB hSp hvL hvN
    gi_wp2_with (refine ⟨trivial, ?_⟩; gi_at_call 10; refine (callsIn_wide.2 hA.out).mono ?_; rintro e w5 ⟨rfl, hb5⟩; have hvR5 : Boxed w5 (w.heap.size + 1) 4 (.bool false) := (hb5.block _ hvR.lt).trans hvR; have hcR5 := hvR5.cell; have hfR5 := hvR5.frozen; have hb5 := hide hb5)
    have hK5 := (hb5.out.block D (Array.getElem?_eq_some_iff.1 hK).1).trans hK
    have hK' := (KeepsOthers.setCell w5 ⟨w.heap.size + 1, 0, none⟩ (.bool true)).same D _ hK5 rfl
    refine ⟨by simp, .inl ⟨_, _, rfl, run_takeDeferred hK', ?_⟩⟩
    have hc5 := ((hvR5.set (.bool true)).kept (grownBy_putObj' _ D (.deferred none)) (by intro e; cases e; omega)).cell
    refine ⟨.bool true, by simp [results, Tryd.results3, go_sem, hc5], rfl, ?_⟩
    have q1 : Below w.heap.size w w5 := (hBw.trans (hBH.out.mono (by omega))).trans (hb5.out.mono (by have := hBH.out.size; omega))
    exact (q1.trans (below_set w5 _ _ q1.size (by omega))).trans (belowK_b (w := w) (Nat.le_refl _) _ D _ _ (by omega) hK' rfl rfl)
end Go.Proofs.YtlnbglpddpgooaaDoor

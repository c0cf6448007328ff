/- Part 14 of the proof: texts joined by this repo's tools/merge.py (Agd AgdB). By the prover of this repo. -/
import Derived.Test.YtfjgpjgphdiliaaGreatM13
import Derived.Test.YtfjgpjgphdiliaaGreatM5
import Derived.Maps.OwnSet
import Derived.BigRegion
set_option linter.unusedVariables false
set_option linter.unusedSimpArgs false
/- The walks of layer 10: which node stands ahead, and the agenda's places. By the prover of this repo. -/
namespace Go.Proofs.YtfjgpjgphdiliaaGreat
open Go.RowKit
open TwigM RollM StoM

theorem ahead_c (a b : Int) (w : World) (ha : a ≤ 9223372036854775807) (hb : b ≤ 9223372036854775807) :
    Calls Tryz.prog 137 #[.int .i64 a, .int .i64 b] w fun e w' => e = .returned (.bool (aheadF a b)) ∧ w = w' := by
  have h1 := hide (fun W => depth_c a W ha)
  have h2 := hide (fun W => depth_c b W hb)
  unfold aheadF
  generalize depthF a = x at *
  generalize depthF b = y at *
  obtain ⟨x, xo⟩ := x
  obtain ⟨y, yo⟩ := y
  by_cases h : x = y
  · simp only [h, if_true]
    subst h
    go_enter Tryz.func137, Tryz.ntmps137
    go_wp2_with fail
    refine Calls.mono (h1.out _) ?_
    rintro e w1 ⟨rfl, rfl⟩
    go_wp2_with fail
    refine Calls.mono (h2.out _) ?_
    rintro e w1 ⟨rfl, rfl⟩
    go_wp2_with fail
    go_ret
    exact ⟨rfl, rfl⟩
  · simp only [h, if_false]
    go_enter Tryz.func137, Tryz.ntmps137
    go_wp2_with fail
    refine Calls.mono (h1.out _) ?_
    rintro e w1 ⟨rfl, rfl⟩
    go_wp2_with fail
    refine Calls.mono (h2.out _) ?_
    rintro e w1 ⟨rfl, rfl⟩
    go_wp2_with fail
    go_ret
    exact ⟨rfl, rfl⟩
/-- Numbers, as values. -/
def hv (h : List Int) : List Value := h.map (Value.int .i64)
theorem hv_len (h : List Int) : (hv h).length = h.length := by simp [hv]
theorem hv_get (h : List Int) (i : Nat) (hi : i < h.length) : (hv h)[i]? = some (.int .i64 (h.getD i 0)) := by
  unfold hv
  rw [List.getElem?_map, List.getD_eq_getElem?_getD, List.getElem?_eq_getElem hi]; rfl
theorem hv_set (h : List Int) (i : Nat) (x : Int) : (hv h).set i (.int .i64 x) = hv (h.set i x) := by unfold hv; rw [List.map_set]
/-- An agenda's numbers, in a block of their own. -/
structure RowAt (w : World) (a g cap : Nat) (mv : Value) (h : List Int) : Prop where
  blk : Blk w a 169 #[.slice (some ⟨g, 0, none⟩) h.length cap, mv]
  row : w.ownsRow 0 3 1 (.slice (some ⟨g, 0, none⟩) h.length cap) h.length (hv h)
  ne : a ≠ g
section
variable {w : World} {a g cap : Nat} {mv : Value} {h : List Int}
theorem RowAt.at (r : RowAt w a g cap mv h) {i : Nat} (hi : i < h.length) : w.cell? ⟨g, i, none⟩ = some (.int .i64 (h.getD i 0)) ∧ w.frozen? ⟨g, i, none⟩ = false :=
  ⟨(r.row.cellAt i (by omega)).trans (hv_get h i hi), r.row.frozenAt i⟩
theorem RowAt.set (r : RowAt w a g cap mv h) (i : Nat) (x : Int) : RowAt (w.setCell ⟨g, i, none⟩ (.int .i64 x)) a g cap mv (h.set i x) := by
  have h2 := (r.row.stored i (.int .i64 x)).1
  rw [hv_set] at h2
  refine ⟨?_, ?_, r.ne⟩
  · rw [List.length_set]
    exact r.blk.off (p := ⟨g, i, none⟩) r.ne _
  · rw [List.length_set]
    exact h2
theorem RowAt.lt (r : RowAt w a g cap mv h) : a < w.heap.size ∧ g < w.heap.size := ⟨r.blk.lt, (r.row.lt g rfl).2⟩
theorem RowAt.drewN (r : RowAt w a g cap mv h) (n : Nat) : RowAt (w.drewN n) a g cap mv h := ⟨r.blk, r.row, r.ne⟩
end
set_option maxRecDepth 100000 in
set_option maxHeartbeats 2000000 in
theorem agd_swap (a g cap i j : Nat) (mv : Value) (h : List Int) (w : World) (r : RowAt w a g cap mv h) (hi : i < h.length) (hj : j < h.length) (hij : i ≠ j) (hl : h.length ≤ 1000000000) :
    Calls Tryz.prog 138 #[.pointer (some ⟨a, 0, none⟩), .int .i64 (i : Int), .int .i64 (j : Int)] w fun e w' => (∃ v, e = .returned v) ∧ RowAt w' a g cap mv (swapL h i j) ∧ Turn (fun x => x = g) w w' := by
  have c0 := r.blk.cell 0
  obtain ⟨ci, fi⟩ := r.at hi
  obtain ⟨cj, fj⟩ := r.at hj
  have hs : Hid (RowAt ((w.setCell ⟨g, i, none⟩ (.int .i64 (h.getD j 0))).setCell ⟨g, j, none⟩ (.int .i64 (h.getD i 0))) a g cap mv (swapL h i j)) := by
    have := (r.set i (h.getD j 0)).set j (h.getD i 0)
    exact this
  obtain ⟨ha, hg⟩ := r.lt
  have hne := r.ne
  generalize h.getD i 0 = x at *
  generalize h.getD j 0 = y at *
  generalize swapL h i j = h' at *
  obtain ⟨n, hn⟩ : ∃ n, h.length = n := ⟨_, rfl⟩
  rw [hn] at c0 hi hj hl
  have hi1 : (i : Int) < (n : Int) := by omega
  have hj1 : (j : Int) < (n : Int) := by omega
  clear r hn
  go_enter Tryz.func138, Tryz.ntmps138
  go_wp2_with fail
  go_region
  go_end0
  refine ⟨⟨_, rfl⟩, ⟨hs.out.blk, hs.out.row, hs.out.ne⟩, ?_⟩
  exact (((Turn.setCell w (fun x => x = g) ⟨g, i, none⟩ (.int .i64 y) rfl).trans (Turn.setCell _ (fun x => x = g) ⟨g, j, none⟩ (.int .i64 x) rfl) fun _ _ h => h).drewN 1)
/-- The first of a place and of the one behind it. -/
def midF (h : List Int) (i : Nat) : Nat := if 2 * i + 1 < h.length ∧ aheadF (h.getD (2 * i + 1) 0) (h.getD i 0) = true then 2 * i + 1 else i
theorem bestF_mid (h : List Int) (i : Nat) : bestF h i = if 2 * i + 2 < h.length ∧ aheadF (h.getD (2 * i + 2) 0) (h.getD (midF h i) 0) = true then 2 * i + 2 else midF h i := rfl
theorem midF_lt (h : List Int) (i : Nat) (hi : i < h.length) : midF h i < h.length := by
  unfold midF
  split
  · rename_i k; exact k.1
  · exact hi
theorem small_at {h : List Int} (hb : ∀ x ∈ h, x ≤ 9223372036854775807) (i : Nat) : h.getD i 0 ≤ 9223372036854775807 := by
  rw [List.getD_eq_getElem?_getD]
  by_cases hi : i < h.length
  · rw [List.getElem?_eq_getElem hi]; exact hb _ (List.getElem_mem hi)
  · rw [List.getElem?_eq_none (by omega)]; show (0 : Int) ≤ _; omega
theorem small_swap {h : List Int} {i j : Nat} (hi : i < h.length) (hj : j < h.length) {b : Int} (hb : ∀ x ∈ h, x ≤ b) : ∀ x ∈ swapL h i j, x ≤ b := fun x hx => hb x ((swapL_perm hi hj).mem_iff.1 hx)
set_option maxRecDepth 100000 in
set_option maxHeartbeats 4000000 in
theorem agd_sink (fu a g cap : Nat) (mv : Value) (h : List Int) (w : World) (r : RowAt w a g cap mv h) (hb : ∀ x ∈ h, x ≤ 9223372036854775807) (hl : h.length ≤ 1000000000) (hl0 : 0 < h.length) (hfu : h.length ≤ fu) :
    Calls Tryz.prog 135 #[.pointer (some ⟨a, 0, none⟩)] w fun e w' => (∃ v, e = .returned v) ∧ RowAt w' a g cap mv (dnG fu h 0) ∧ Turn (fun x => x = g) w w' := by
  obtain ⟨H, hH⟩ : ∃ H, Hid (dnG fu h 0 = H) := ⟨_, rfl⟩
  rw [hH.out]
  have r := hide r
  have hst : Hid (∀ x ∈ h, x ≤ 9223372036854775807) := hb
  clear hb
  obtain ⟨n, hn⟩ : ∃ n, Hid (h.length = n) := ⟨_, rfl⟩
  rw [hn.out] at hl hl0 hfu
  go_enter Tryz.func135, Tryz.ntmps135
  go_wp2_with fail
  go_loopw [2] (fun kv wr => ∃ (hh : List Int) (i f : Nat), kv = .int .i64 i ∧ i < n ∧ Hid (hh.length = n) ∧ Hid (n ≤ i + f) ∧ Hid (dnG f hh i = H) ∧ Hid (∀ x ∈ hh, x ≤ 9223372036854775807) ∧ Hid (RowAt wr a g cap mv hh) ∧ Hid (Turn (fun x => x = g) w wr)) (fun kv _ => n - (intOf kv).toNat)
  case atStart => exact ⟨h, 0, fu, rfl, hl0, hn, by show _ ≤ _; omega, hH, hst, r, Turn.refl _ _⟩
  case round =>
    obtain ⟨hh, i, f, rfl, hi, hlen, hf, hgo, hsm, hr, ht⟩ := hrel
    clear r hst hH
    have hmid := midF_lt hh i (by rw [hlen.out]; exact hi)
    rw [hlen.out] at hmid
    go_wp2_with fail
    go_loopw [3, 4] (fun fv kv wi => ∃ (fr kk : Nat), fv = .int .i64 fr ∧ kv = .int .i64 kk ∧ fr < n ∧ kk ≤ 2 * i + 3 ∧ Hid ((kk = 2 * i + 1 ∧ fr = i) ∨ (kk = 2 * i + 2 ∧ fr = midF hh i) ∨ (kk = 2 * i + 3 ∧ fr = bestF hh i)) ∧ Hid (RowAt wi a g cap mv hh) ∧ Hid (Turn (fun x => x = g) w wi)) (fun _ kv _ => 2 * i + 3 - (intOf kv).toNat)
    case atStart => exact ⟨i, 2 * i + 1, rfl, by go_num, hi, by omega, .inl ⟨rfl, rfl⟩, hr, ht⟩
    case round =>
      obtain ⟨fr, kk, rfl, rfl, hfr, hkk, hst2, hr2, ht2⟩ := hrel
      clear hr ht
      have c0 := hr2.out.blk.cell 0
      rw [show (#[Value.slice (some ⟨g, 0, none⟩) hh.length cap, mv] : Array Value)[0]? = some (.slice (some ⟨g, 0, none⟩) hh.length cap) from rfl, hlen.out] at c0
      by_cases hg1 : kk ≤ 2 * i + 2 ∧ kk < n
      · obtain ⟨hg1, hg2⟩ := hg1
        obtain ⟨ck, fk⟩ := hr2.out.at (i := kk) (by rw [hlen.out]; exact hg2)
        obtain ⟨cf, ff⟩ := hr2.out.at (i := fr) (by rw [hlen.out]; exact hfr)
        have hA := hide (fun W => ahead_c (hh.getD kk 0) (hh.getD fr 0) W (small_at hsm.out kk) (small_at hsm.out fr))
        have hnext : Hid (∀ b, aheadF (hh.getD kk 0) (hh.getD fr 0) = b → (kk + 1 = 2 * i + 2 ∧ (if b = true then kk else fr) = midF hh i) ∨ (kk + 1 = 2 * i + 3 ∧ (if b = true then kk else fr) = bestF hh i)) := by
          intro b hb
          rcases hst2.out with ⟨e1, e2⟩ | ⟨e1, e2⟩ | ⟨e1, e2⟩
          · left
            refine ⟨by omega, ?_⟩
            unfold midF
            subst e1 e2
            rw [hb]
            cases b
            · rw [if_neg (by simp), if_neg (by simp)]
            · rw [if_pos rfl, if_pos ⟨by rw [hlen.out]; exact hg2, rfl⟩]
          · right
            refine ⟨by omega, ?_⟩
            rw [bestF_mid, ← e2]
            subst e1
            rw [hb]
            cases b
            · rw [if_neg (by simp), if_neg (by simp)]
            · rw [if_pos rfl, if_pos ⟨by rw [hlen.out]; exact hg2, rfl⟩]
          · omega
        have hk1 : (kk : Int) < (n : Int) := by omega
        have hf1 : (fr : Int) < (n : Int) := by omega
        generalize hx : hh.getD kk 0 = x at *
        generalize hy : hh.getD fr 0 = y at *
        replace hx := hide hx
        replace hy := hide hy
        clear hst2
        by_cases hah : aheadF x y = true
        · rw [hah] at hA
          have hn2 := hide (hnext.out true hah)
          clear hnext hah
          go_wp2_with fail
          go_quiet ((go_at_call 137; exact quiet_same (hA.out _)))
          go_wp2_with fail
          go_roundw
          case rel => exact ⟨kk, kk + 1, rfl, by go_num, hg2, by omega, .inr (by simpa using hn2.out), hr2.out.drewN _, ht2.out.drewN _⟩
          case measure => simp [intOf]; omega
        · have hah2 : aheadF x y = false := by simpa using hah
          rw [hah2] at hA
          have hn2 := hide (hnext.out false hah2)
          clear hnext hah hah2
          go_wp2_with fail
          go_quiet ((go_at_call 137; exact quiet_same (hA.out _)))
          go_wp2_with fail
          go_roundw
          case rel => exact ⟨fr, kk + 1, rfl, by go_num, hfr, by omega, .inr (by simpa using hn2.out), hr2.out.drewN _, ht2.out.drewN _⟩
          case measure => simp [intOf]; omega
      · have hbest : Hid (fr = bestF hh i) := by
          show _ = _
          rcases hst2.out with ⟨e1, e2⟩ | ⟨e1, e2⟩ | ⟨e1, e2⟩
          · have : ¬ (2 * i + 1 < n) := by omega
            rw [bestF_mid, hlen.out, if_neg (by omega)]
            unfold midF
            rw [hlen.out, if_neg (by omega)]
            exact e2
          · have : ¬ (2 * i + 2 < n) := by omega
            rw [bestF_mid, hlen.out, if_neg (by omega)]
            exact e2
          · exact e2
        clear hst2
        have hbl := bestF_lt hh i (by rw [hlen.out]; exact hi)
        rw [hlen.out, ← hbest.out] at hbl
        have hcase : Hid (fr = i → hh = H) ∧ Hid (fr ≠ i → ∃ f', n ≤ fr + f' ∧ dnG f' (swapL hh i fr) fr = H) := by
          obtain ⟨f0, hf0⟩ : ∃ f0, f = f0 + 1 := ⟨f - 1, by have := hf.out; omega⟩
          have hg0 := hgo.out
          rw [hf0, dnG, ← hbest.out] at hg0
          refine ⟨fun e => ?_, fun e => ?_⟩
          · rw [if_pos e] at hg0; exact hg0
          · rw [if_neg e] at hg0
            exact ⟨f0, by have := hf.out; omega, hg0⟩
        obtain ⟨hc1, hc2⟩ := hcase
        have hblo := hbl.1
        clear hbest hbl
        rcases Nat.lt_or_ge (2 * i + 2) kk with hq | hq
        · clear hg1
          by_cases hfi : fr = i
          · have hc9 : hh = H := hc1.out hfi
            clear hc1 hc2
            subst hc9
            subst hfi
            go_wp2_with fail
            refine bodyPost_ret (results_none rfl _ _ _) rfl ?_
            exact ⟨⟨_, rfl⟩, hr2.out, ht2.out⟩
          · obtain ⟨f', hf1, hf2⟩ := hc2.out hfi
            have hf1 := hide hf1
            have hf2 := hide hf2
            have hS := hide (agd_swap a g cap i fr mv hh wr hr2.out (by rw [hlen.out]; exact hi) (by rw [hlen.out]; exact hfr) (by omega) (by rw [hlen.out]; exact hl))
            have hls : Hid ((swapL hh i fr).length = n) := (swapL_len hh i fr).trans hlen.out
            have hss : Hid (∀ x ∈ swapL hh i fr, x ≤ 9223372036854775807) := small_swap (by rw [hlen.out]; exact hi) (by rw [hlen.out]; exact hfr) hsm.out
            go_wp2_with fail
            refine Calls.mono hS.out ?_
            rintro e w3 ⟨⟨v3, rfl⟩, hr3, ht3⟩
            have hr3 := hide hr3
            have ht3 := hide ht3
            go_wp2_with fail
            go_roundw
            case rel => exact ⟨swapL hh i fr, fr, f', rfl, hfr, hls, hf1, hf2, hss, hr3, ht2.out.trans ht3.out fun _ _ h => h⟩
            case measure => simp [intOf]; omega
        · have hq2 : n ≤ kk := by omega
          clear hg1
          by_cases hfi : fr = i
          · have hc9 : hh = H := hc1.out hfi
            clear hc1 hc2
            subst hc9
            subst hfi
            go_wp2_with fail
            refine bodyPost_ret (results_none rfl _ _ _) rfl ?_
            exact ⟨⟨_, rfl⟩, hr2.out, ht2.out⟩
          · obtain ⟨f', hf1, hf2⟩ := hc2.out hfi
            have hf1 := hide hf1
            have hf2 := hide hf2
            have hS := hide (agd_swap a g cap i fr mv hh wr hr2.out (by rw [hlen.out]; exact hi) (by rw [hlen.out]; exact hfr) (by omega) (by rw [hlen.out]; exact hl))
            have hls : Hid ((swapL hh i fr).length = n) := (swapL_len hh i fr).trans hlen.out
            have hss : Hid (∀ x ∈ swapL hh i fr, x ≤ 9223372036854775807) := small_swap (by rw [hlen.out]; exact hi) (by rw [hlen.out]; exact hfr) hsm.out
            go_wp2_with fail
            refine Calls.mono hS.out ?_
            rintro e w3 ⟨⟨v3, rfl⟩, hr3, ht3⟩
            have hr3 := hide hr3
            have ht3 := hide ht3
            go_wp2_with fail
            go_roundw
            case rel => exact ⟨swapL hh i fr, fr, f', rfl, hfr, hls, hf1, hf2, hss, hr3, ht2.out.trans ht3.out fun _ _ h => h⟩
            case measure => simp [intOf]; omega
end Go.Proofs.YtfjgpjgphdiliaaGreat
/- The walks of layer 10, on: the agenda's set, and what is put there. By the prover of this repo. -/
namespace Go.Proofs.YtfjgpjgphdiliaaGreat
open Go.RowKit
open TwigM RollM StoM

theorem elIntA : Elem Tryz.prog 72 3 (.int .i64 0) 1 8 := ⟨Tryz.underlying72, by kernel_rfl, rfl, by omega⟩
theorem keyInt : Maps.Keyed Tryz.prog 3 := Maps.int_keyed Tryz.underlying3
theorem unit_zero (w : World) : (zeroValue 171).run Tryz.prog w = .ok (.agg #[]) w := by kernel_rfl
theorem key_int {x : Int} (h1 : -9223372036854775808 ≤ x) (h2 : x ≤ 9223372036854775807) : keyOf Tryz.prog 3 (.int .i64 x) = some (.int .i64 x) := by
  refine Maps.keyOf_int_mk Tryz.underlying3 ?_
  have e1 : IntKind.i64.min = -9223372036854775808 := rfl
  have e2 : IntKind.i64.max = 9223372036854775807 := rfl
  simp only [Lit.wf, e1, e2, Bool.and_eq_true, decide_eq_true_eq]
  omega
/-- A set of numbers. -/
def SetIs (w : World) (m n : Nat) (h : List Int) : Prop := ∃ D : DataW Unit, w.ownsMap Tryz.prog 3 unitElem m n D ∧ ∀ x : Int, -9223372036854775808 ≤ x → x ≤ 9223372036854775807 → Maps.has D (.int .i64 x) = decide (x ∈ h)
theorem SetIs.turned {w w' : World} {m n : Nat} {h : List Int} {S : Nat → Prop} (s : SetIs w m n h) (t : Turn S w w') (hm : ¬ S m) : SetIs w' m n h := by
  obtain ⟨D, ho, hD⟩ := s
  have hlt := ho.lt
  obtain ⟨es, clock, hb, F, hs, e⟩ := ho
  exact ⟨D, ⟨es, clock, (t.block m hlt hm).trans hb, F, hs, e⟩, hD⟩
theorem SetIs.made (w : World) : SetIs (w.alloc (.map #[] 0)) w.heap.size 0 [] := ⟨.map [], World.ownsMap_made _ _ _ _, fun x _ _ => by simp [Maps.has]⟩
theorem SetIs.congr {w : World} {m n : Nat} {h h' : List Int} (s : SetIs w m n h) (e : ∀ x, x ∈ h ↔ x ∈ h') : SetIs w m n h' := by
  obtain ⟨D, ho, hD⟩ := s
  exact ⟨D, ho, fun x h1 h2 => by rw [hD x h1 h2]; simp only [e]⟩
theorem SetIs.lt {w : World} {m n : Nat} {h : List Int} (s : SetIs w m n h) : m < w.heap.size := by
  obtain ⟨D, ho, hD⟩ := s
  exact ho.lt
theorem grown_turn {w w' : World} {g : Nat} (h : w.grownBy w' (some g)) : Turn (fun x => x = g) w w' := ⟨h.os, h.tape, h.output, h.size, fun k hk hn => h.block k hk (fun e => hn (Option.some.inj e))⟩
theorem own_turned {w w' : World} {S : Nat → Prop} {e : TypeId} {size n : Nat} {v : Value} {xs : List Value} (h : w.ownsRow 0 e size v n xs) (t : Turn S w w') (hn : ∀ k, v.ownBlock = some k → ¬ S k) : w'.ownsRow 0 e size v n xs := by
  have hlt := h.lt
  obtain ⟨h1, h2⟩ := h
  refine ⟨h1, ?_⟩
  rcases h2 with h2 | ⟨g, cap, cur, rfl, hb, hg, hr⟩
  · exact .inl h2
  · exact .inr ⟨g, cap, cur, rfl, hb, (t.block g (hlt g rfl).2 (hn g rfl)).trans hg, hr⟩
/-- An agenda: its own numbers, and the set of just these. -/
structure AgdAt (w : World) (a m : Nat) (v : Value) (h : List Int) (n : Nat) : Prop where
  blk : Blk w a 169 #[v, .map (some m)]
  row : w.ownsRow 0 3 1 v h.length (hv h)
  set : SetIs w m n h
  ne1 : a ≠ m
  ne2 : v.ownBlock ≠ some a
  ne3 : v.ownBlock ≠ some m
  pos : ∀ x ∈ h, 1 ≤ x ∧ x ≤ 1152921504606846976
  nodup : h.Nodup
  len : h.length ≤ 100000000
def foot (a m : Nat) (v : Value) (j : Nat) : Prop := j = a ∨ j = m ∨ v.ownBlock = some j
theorem AgdAt.turned {w w' : World} {a m n : Nat} {v : Value} {h : List Int} {S : Nat → Prop} (s : AgdAt w a m v h n) (t : Turn S w w') (hn : ∀ j, foot a m v j → ¬ S j) : AgdAt w' a m v h n :=
  ⟨s.blk.turned t (hn a (.inl rfl)), own_turned s.row t (fun k hk => hn k (.inr (.inr hk))), s.set.turned t (hn m (.inr (.inl rfl))), s.ne1, s.ne2, s.ne3, s.pos, s.nodup, s.len⟩
theorem AgdAt.lt {w : World} {a m n : Nat} {v : Value} {h : List Int} (s : AgdAt w a m v h n) : ∀ j, foot a m v j → j < w.heap.size := by
  rintro j (rfl | rfl | e)
  · exact s.blk.lt
  · exact s.set.lt
  · exact (s.row.lt j e).2
theorem agd_len (a m n : Nat) (v : Value) (h : List Int) (w : World) (s : AgdAt w a m v h n) : Calls Tryz.prog 114 #[.pointer (some ⟨a, 0, none⟩)] w fun e w' => e = .returned (.int .i64 (h.length : Int)) ∧ w = w' := by
  have c0 := s.blk.cell 0
  obtain ⟨A, c, rfl, -, -, -⟩ := own_form s.row
  clear s
  go_enter Tryz.func114, Tryz.ntmps114
  go_wp2_with fail
  go_ret
  exact ⟨rfl, rfl⟩
theorem agd_put_no (a : Nat) (id : Int) (w : World) (hid : id < 1) : Calls Tryz.prog 118 #[.pointer (some ⟨a, 0, none⟩), .int .i64 id] w fun e w' => e = .returned (.bool false) ∧ w = w' := by
  go_enter Tryz.func118, Tryz.ntmps118
  go_wp2_with fail
  go_ret
  exact ⟨rfl, rfl⟩
set_option maxRecDepth 100000 in
theorem agd_put_in (a m n : Nat) (v : Value) (h : List Int) (id : Int) (w : World) (s : AgdAt w a m v h n) (hid : 1 ≤ id) (hid2 : id ≤ 1152921504606846976) (hin : id ∈ h) : Calls Tryz.prog 118 #[.pointer (some ⟨a, 0, none⟩), .int .i64 id] w fun e w' => e = .returned (.bool false) ∧ Below w.heap.size w w' := by
  have c1 := s.blk.cell 1
  obtain ⟨D, ho, hD⟩ := s.set
  have hkey := key_int (x := id) (by omega) (by omega)
  have hhas := hD id (by omega) (by omega)
  rw [decide_eq_true hin] at hhas
  have ho := hide ho
  clear s hD
  go_enter Tryz.func118, Tryz.ntmps118
  go_wp2_with (at_lookup; refine wpList_lookup_own_unit _ rfl _ _ 167 rfl 3 171 keyInt Tryz.underlying167 (unit_zero _) m n D rfl ho.out _ _ rfl hkey ?_)
  go_ret
  exact ⟨rfl, balloc0 _ _⟩
theorem SetIs.putted {w w' : World} {m n : Nat} {D : DataW Unit} {h : List Int} {id : Int} (hD : ∀ x : Int, -9223372036854775808 ≤ x → x ≤ 9223372036854775807 → Maps.has D (.int .i64 x) = decide (x ∈ h)) (hm : Maps.IsMap D)
    (ho : w'.ownsMap Tryz.prog 3 unitElem m n (D.put (.int .i64 id) (.agg []))) : SetIs w' m n (h ++ [id]) := by
  refine ⟨_, ho, fun x h1 h2 => ?_⟩
  by_cases e : x = id
  · subst e
    rw [Maps.has_put_same hm (by simp [WideAt.IsKeyLit]) (.agg [])]
    simp
  · rw [Maps.has_put_other (by intro q; injection q; contradiction) (.agg []), hD x h1 h2]
    simp [e]
theorem AgdAt.rowAt {w : World} {a m n : Nat} {v : Value} {h : List Int} (s : AgdAt w a m v h n) (hl : 0 < h.length) : ∃ g cap, v = .slice (some ⟨g, 0, none⟩) h.length cap ∧ RowAt w a g cap (.map (some m)) h := by
  obtain ⟨A, c, rfl, h1, h2, h3⟩ := own_form s.row
  rcases s.row.2 with ⟨_, h0⟩ | ⟨g, cap, cur, e, _⟩
  · omega
  · injection e with e1 e2 e3
    subst e1 e3
    exact ⟨g, c, rfl, s.blk, s.row, fun e => s.ne2 (by rw [e]; rfl)⟩
theorem own_pos {w : World} {e : TypeId} {size n base : Nat} {v : Value} {xs : List Value} (h : w.ownsRow base e size v n xs) (hn : 0 < n) : ∃ g cap, v = .slice (some ⟨g, 0, none⟩) n cap := by
  rcases h.2 with ⟨_, h0⟩ | ⟨g, cap, cur, e, _⟩
  · omega
  · exact ⟨g, cap, e⟩
theorem grown_own {w w' : World} {v : Value} (h : w.grownBy w' v.ownBlock) : Turn (fun j => v.ownBlock = some j) w w' := ⟨h.os, h.tape, h.output, h.size, fun k hk hn => h.block k hk (fun e => hn e.symm)⟩
/-- What the agenda is, just before its new number moves up. -/
structure AgdMid (w w2 : World) (a m g cap n : Nat) (v : Value) (h : List Int) (id : Int) : Prop where
  turn : Turn (foot a m v) w w2
  blk : Blk w2 a 169 #[v, .map (some m)]
  row : w2.ownsRow 0 3 1 (.slice (some ⟨g, 0, none⟩) (h.length + 1) cap) (h.length + 1) (hv (h ++ [id]))
  set : SetIs w2 m (n + 1) (h ++ [id])
  nea : a ≠ g
  nem : m ≠ g
  old : v.ownBlock = some g ∨ w.heap.size ≤ g
theorem AgdMid.mk' {w w1 w2 : World} {a m g cap n : Nat} {v : Value} {h : List Int} {id : Int} {D : DataW Unit} {e1 e2 : Obj} (s : AgdAt w a m v h n) (hD : ∀ x : Int, -9223372036854775808 ≤ x → x ≤ 9223372036854775807 → Maps.has D (.int .i64 x) = decide (x ∈ h)) (hm : Maps.IsMap D)
    (hown1 : w1.ownsMap Tryz.prog 3 unitElem m (n + 1) (D.put (.int .i64 id) (.agg []))) (hg1 : (w.alloc e1).grownBy w1 (some m)) (how : w2.ownsRow 0 3 1 (.slice (some ⟨g, 0, none⟩) (h.length + 1) cap) (h.length + 1) (hv h ++ [.int .i64 id]))
    (hg2 : w1.grownBy w2 v.ownBlock) (hat : (Value.slice (some ⟨g, 0, none⟩) (h.length + 1) cap).ownBlock = v.ownBlock ∨ (Value.slice (some ⟨g, 0, none⟩) (h.length + 1) cap).ownBlock = some (w1.heap.size + 1)) : AgdMid w w2 a m g cap n v h id := by
  have t1 : Turn (fun j => j = m) w w1 := (Turn.alloc w (fun j => j = m) e1).trans (grown_turn hg1) fun _ _ h => h
  have t2 := grown_own hg2
  have t12 : Turn (foot a m v) w w2 := (t1.more (T := foot a m v) fun j _ e => .inr (.inl e)).trans t2 fun j _ e => .inr (.inr e)
  have hsz := t1.size
  have hal := s.blk.lt
  have hml := s.set.lt
  have hold : v.ownBlock = some g ∨ w.heap.size ≤ g := by
    rcases hat with e | e
    · exact .inl e.symm
    · right
      have : g = w1.heap.size + 1 := Option.some.inj e
      omega
  refine ⟨t12, ?_, ?_, ?_, ?_, ?_, hold⟩
  · exact (s.blk.turned t1 s.ne1).turned t2 s.ne2
  · have : hv (h ++ [id]) = hv h ++ [.int .i64 id] := by simp [hv]
    rw [this]; exact how
  · exact SetIs.turned (SetIs.putted (w := w) hD hm hown1) t2 s.ne3
  · rintro rfl
    rcases hold with e | e
    · exact s.ne2 e
    · omega
  · rintro rfl
    rcases hold with e | e
    · exact s.ne3 e
    · omega
theorem AgdMid.rowAt {w w2 : World} {a m g cap n : Nat} {v : Value} {h : List Int} {id : Int} (q : AgdMid w w2 a m g cap n v h id) : RowAt (w2.setCell ⟨a, 0, none⟩ (.slice (some ⟨g, 0, none⟩) (h.length + 1) cap)) a g cap (.map (some m)) (h ++ [id]) := by
  have h1 := q.blk.set 0 (.slice (some ⟨g, 0, none⟩) (h.length + 1) cap)
  have hl : (h ++ [id]).length = h.length + 1 := by simp
  refine ⟨by rw [hl]; simpa using h1, ?_, q.nea⟩
  rw [hl]
  exact own_turned q.row (Turn.setCell w2 (fun j => j = a) _ _ rfl) fun k hk e => by
    have : g = k := Option.some.inj hk
    exact q.nea (by rw [this]; exact e.symm)
theorem AgdMid.fin {w w2 w3 : World} {a m g cap n : Nat} {v : Value} {h hh : List Int} {id : Int} (q : AgdMid w w2 a m g cap n v h id) (s : AgdAt w a m v h n) (hid : 1 ≤ id) (hid2 : id ≤ 1152921504606846976) (hin : id ∉ h) (hl : h.length < 100000000)
    (r : RowAt w3 a g cap (.map (some m)) hh) (t : Turn (fun x => x = g) (w2.setCell ⟨a, 0, none⟩ (.slice (some ⟨g, 0, none⟩) (h.length + 1) cap)) w3) (e : hh = putA h id) :
    AgdAt w3 a m (.slice (some ⟨g, 0, none⟩) hh.length cap) hh (n + 1) ∧ Turn (foot a m v) w w3 ∧ ∀ j, foot a m (.slice (some ⟨g, 0, none⟩) hh.length cap) j → foot a m v j ∨ w.heap.size ≤ j := by
  have hmem : ∀ x, x ∈ hh ↔ x ∈ h ∨ (x = id ∧ 1 ≤ id) := fun x => by rw [e]; exact putA_mem h id x
  have tA := Turn.setCell w2 (fun j => j = a) ⟨a, 0, none⟩ (.slice (some ⟨g, 0, none⟩) (h.length + 1) cap) rfl
  have hgl : ∀ j, j < w.heap.size → j = g → foot a m v j := fun j hj ej => by
    rcases q.old with k | k
    · exact .inr (.inr (by rw [k, ej]))
    · omega
  refine ⟨⟨r.blk, r.row, ?_, s.ne1, ?_, ?_, ?_, ?_, ?_⟩, ?_, ?_⟩
  · refine SetIs.congr ((q.set.turned tA (Ne.symm s.ne1)).turned t q.nem) fun x => ?_
    rw [hmem, List.mem_append, List.mem_singleton]
    exact ⟨fun k => k.elim .inl fun k => .inr ⟨k, hid⟩, fun k => k.elim .inl fun k => .inr k.1⟩
  · intro k; exact q.nea (Option.some.inj k).symm
  · intro k; exact q.nem (Option.some.inj k).symm
  · intro x hx
    rcases (hmem x).1 hx with k | ⟨rfl, _⟩
    · exact s.pos x k
    · exact ⟨hid, hid2⟩
  · rw [e]; exact putA_nodup s.nodup id
  · have := putA_len h id
    rw [e]; omega
  · exact (q.turn.trans (tA.more (T := foot a m v) fun j _ k => .inl k) fun _ _ k => k).trans t fun j hj k => hgl j hj k
  · rintro j (k | k | k)
    · exact .inl (.inl k)
    · exact .inl (.inr (.inl k))
    · have hgj : g = j := Option.some.inj k
      rcases q.old with k2 | k2
      · exact .inl (.inr (.inr (by rw [k2, hgj])))
      · right; omega
theorem putA_up {h : List Int} {id : Int} (hid : 1 ≤ id) (hin : id ∉ h) : putA h id = upG h.length (h ++ [id]) h.length := by
  unfold putA
  rw [if_neg]
  rintro (k | k)
  · omega
  · exact hin k
set_option maxRecDepth 100000 in
set_option maxHeartbeats 4000000 in
theorem agd_put_new (a m n : Nat) (v : Value) (h : List Int) (id : Int) (w : World) (s : AgdAt w a m v h n) (hid : 1 ≤ id) (hid2 : id ≤ 1152921504606846976) (hin : id ∉ h) (hl : h.length < 100000000) (hn : n ≤ 1000000000000000) :
    Calls Tryz.prog 118 #[.pointer (some ⟨a, 0, none⟩), .int .i64 id] w fun e w' => e = .returned (.bool true) ∧ ∃ v', AgdAt w' a m v' (putA h id) (n + 1) ∧ Turn (foot a m v) w w' ∧ ∀ j, foot a m v' j → foot a m v j ∨ w.heap.size ≤ j := by
  have c0 := s.blk.cell 0
  have c1 := s.blk.cell 1
  have ha := s.blk.lt
  obtain ⟨D, ho, hD⟩ := s.set
  have hkey := key_int (x := id) (by omega) (by omega)
  have hhas := hD id (by omega) (by omega)
  rw [decide_eq_false hin] at hhas
  have hmk := hide (fun w1 w2 g cap e1 => AgdMid.mk' (w1 := w1) (w2 := w2) (g := g) (cap := cap) (id := id) (e1 := e1) (e2 := e1) s hD ho.isMap)
  have hfin := hide (fun w2 w3 g cap hh q => AgdMid.fin (w := w) (w2 := w2) (w3 := w3) (g := g) (cap := cap) (hh := hh) (id := id) q s hid hid2 hin hl)
  have hpu := putA_up (h := h) hid hin
  have hrd := hide (fun w1 (k : (w.alloc (.cells #[] 171)).grownBy w1 (some m)) => (⟨s.blk.turned ((Turn.alloc w (fun j => j = m) _).trans (grown_turn k) fun _ _ h => h) s.ne1, own_turned s.row ((Turn.alloc w (fun j => j = m) _).trans (grown_turn k) fun _ _ h => h) (fun k hk e => s.ne3 (by rw [hk, e]))⟩ : Blk w1 a 169 #[v, .map (some m)] ∧ w1.ownsRow 0 3 1 v h.length (hv h)))
  have ho := hide ho
  have hsm : Hid (∀ x ∈ h ++ [id], x ≤ 9223372036854775807) := fun x hx => by
    rcases List.mem_append.1 hx with k | k
    · have := (s.pos x k).2; omega
    · rw [List.mem_singleton.1 k]; omega
  clear s hD
  obtain ⟨H, hH⟩ : ∃ H, Hid (putA h id = H) := ⟨_, rfl⟩
  rw [hH.out]
  have hH2 : Hid (upG h.length (h ++ [id]) h.length = H) := hpu.symm.trans hH.out
  clear hpu
  have hln : Hid ((h ++ [id]).length = h.length + 1) := by show _ = _; simp
  go_enter Tryz.func118, Tryz.ntmps118
  go_wp2_with (first
    | (at_lookup; refine wpList_lookup_own_unit _ rfl _ _ 167 rfl 3 171 keyInt Tryz.underlying167 (unit_zero _) m n D rfl ho.out _ _ rfl hkey ?_)
    | (at_mapUpdate; refine wpList_mapUpdate_own _ rfl _ _ _ 167 rfl 3 171 keyInt Tryz.underlying167 (unitElem (H := Unit)) m n _ rfl (ho.out.alloc _) (by unfold maxLen; omega) _ _ _ rfl rfl hkey _ [] unitElem_mk ?_; intro w1 hown1 hgrow1; clear c0 c1; have c0 := (hrd.out _ hgrow1).1.cell 0; have hrw := hide (hrd.out _ hgrow1).2; have hown1 := hide hown1; have hgrow1 := hide hgrow1)
    | (at_builtin; refine wpList_app1 elIntA rfl (.tmp 34) (.tmp 36) rfl 0 _ _ _ [.int .i64 id] 3 rfl hrw.out rfl rfl (one1 rfl) (by omega) (Nat.zero_le _) ?_; intro v1 w2 how hb2 hgr2 hat2; obtain ⟨g, cap, rfl⟩ := own_pos how (by omega); have q := hide (hmk.out _ _ _ _ _ hown1.out hgrow1.out how hgr2 hat2); clear c0 how hb2 hgr2 hat2; have c0 := q.out.blk.cell 0; have f0 := q.out.blk.free 0))
  clear hmk hrd ho hkey hhas
  have hrow := hide q.out.rowAt
  have hn1 : Hid ((h ++ [id]).length = h.length + 1) := by show _ = _; simp
  have hfn := hide (fun w3 hh => hfin.out w2 w3 g cap hh q.out)
  clear hfin q
  obtain ⟨n1, hn1'⟩ : ∃ n1, h.length + 1 = n1 := ⟨_, rfl⟩
  obtain ⟨n0, hn0⟩ : ∃ n0, h.length = n0 := ⟨_, rfl⟩
  rw [hn1'] at hn1
  have hn1l : n1 ≤ 100000000 := by omega
  have hn01 : n0 < n1 := by omega
  generalize (w2.setCell ⟨a, 0, none⟩ (.slice (some ⟨g, 0, none⟩) (h.length + 1) cap)) = W3 at *
  rw [hn0] at hH2 ⊢
  clear hn0 hn1'
  go_loopw [7] (fun kv wr => ∃ (hh : List Int) (i f : Nat), kv = .int .i64 i ∧ i < n1 ∧ Hid (hh.length = n1) ∧ Hid (i ≤ f) ∧ Hid (upG f hh i = H) ∧ Hid (∀ x ∈ hh, x ≤ 9223372036854775807) ∧ Hid (RowAt wr a g cap (.map (some m)) hh) ∧ Hid (Turn (fun x => x = g) W3 wr)) (fun kv _ => (intOf kv).toNat)
  case atStart => exact ⟨h ++ [id], n0, n0, rfl, hn01, hn1, Nat.le_refl _, hH2, hsm, hrow, Turn.refl _ _⟩
  case round =>
    obtain ⟨hh, i, f, rfl, hi, hlen, hf, hgo, hsm, hr, ht⟩ := hrel
    clear hrow
    have c0 := hr.out.blk.cell 0
    rw [show (#[Value.slice (some ⟨g, 0, none⟩) hh.length cap, .map (some m)] : Array Value)[0]? = some (.slice (some ⟨g, 0, none⟩) hh.length cap) from rfl, hlen.out] at c0
    by_cases hi0 : 0 < i
    · obtain ⟨p, hp⟩ : ∃ p : Nat, ((i : Int) - 1) / 2 = (p : Int) := ⟨(i - 1) / 2, by omega⟩
      have hpi : p < i := by omega
      have hp2 : Hid ((i - 1) / 2 = p) := by show _ = _; omega
      obtain ⟨ci, fi⟩ := hr.out.at (i := i) (by rw [hlen.out]; exact hi)
      obtain ⟨cp, fp⟩ := hr.out.at (i := p) (by rw [hlen.out]; omega)
      have hA := hide (fun W => ahead_c (hh.getD i 0) (hh.getD p 0) W (small_at hsm.out i) (small_at hsm.out p))
      obtain ⟨f0, hf0⟩ : ∃ f0, f = f0 + 1 := ⟨f - 1, by have := hf.out; omega⟩
      have hg0 : Hid ((if 0 < i ∧ aheadF (hh.getD i 0) (hh.getD p 0) = true then upG f0 (swapL hh i p) p else hh) = H) := by
        show _ = _
        have := hgo.out
        rw [hf0, upG, hp2.out] at this
        exact this
      have hff : Hid (p ≤ f0) := by show _ ≤ _; have := hf.out; omega
      have hi1 : (i : Int) < (n1 : Int) := by omega
      have hp1 : (p : Int) < (n1 : Int) := by omega
      have hi0' : (0 : Int) < (i : Int) := by omega
      clear hgo
      by_cases hah : aheadF (hh.getD i 0) (hh.getD p 0) = true
      · rw [hah] at hA
        have hg1 : Hid (upG f0 (swapL hh i p) p = H) := by
          have := hg0.out
          rw [if_pos ⟨hi0, hah⟩] at this
          exact this
        clear hg0 hah
        have hS := hide (fun W (k : RowAt W a g cap (.map (some m)) hh) => agd_swap a g cap i p (.map (some m)) hh W k (by rw [hlen.out]; exact hi) (by rw [hlen.out]; omega) (by omega) (by rw [hlen.out]; omega))
        have hls : Hid ((swapL hh i p).length = n1) := (swapL_len hh i p).trans hlen.out
        have hss : Hid (∀ x ∈ swapL hh i p, x ≤ 9223372036854775807) := small_swap (by rw [hlen.out]; exact hi) (by rw [hlen.out]; omega) hsm.out
        generalize hh.getD i 0 = x at *
        generalize hh.getD p 0 = y at *
        go_wp2_with fail
        go_quiet ((go_at_call 137; exact quiet_same (hA.out _)))
        go_wp2_with fail
        refine Calls.mono (hS.out _ (hr.out.drewN _)) ?_
        rintro e w5 ⟨⟨v5, rfl⟩, hr5, ht5⟩
        have hr5 := hide hr5
        have ht5 := hide ht5
        go_wp2_with fail
        go_roundw
        case rel => exact ⟨swapL hh i p, p, f0, by rw [hp], by omega, hls, hff, hg1, hss, hr5, (ht.out.drewN _).trans ht5.out fun _ _ h => h⟩
        case measure => simp [intOf]; omega
      · have hah2 : aheadF (hh.getD i 0) (hh.getD p 0) = false := by simpa using hah
        rw [hah2] at hA
        have hg1 : Hid (hh = H) := by
          have := hg0.out
          rw [if_neg (fun k => hah k.2)] at this
          exact this
        clear hg0 hah hah2
        have hHh := hg1.out
        subst hHh
        generalize hh.getD i 0 = x at *
        generalize hh.getD p 0 = y at *
        go_wp2_with fail
        go_quiet ((go_at_call 137; exact quiet_same (hA.out _)))
        go_wp2_with fail
        go_ret
        exact ⟨rfl, _, hfn.out _ hh (hr.out.drewN _) (ht.out.drewN _) hH.out.symm⟩
    · obtain rfl : i = 0 := by omega
      have hHh : hh = H := by
        have := hgo.out
        cases f with
        | zero => exact this
        | succ f0 =>
          rw [upG, if_neg (fun k => by omega)] at this
          exact this
      subst hHh
      clear hgo
      go_wp2_with fail
      go_quiet (fail)
      go_wp2_with fail
      go_ret
      exact ⟨rfl, _, hfn.out _ hh (hr.out.drewN _) (ht.out.drewN _) hH.out.symm⟩
/-- What Put does, in all. -/
theorem agd_put (a m n : Nat) (v : Value) (h : List Int) (id : Int) (w : World) (s : AgdAt w a m v h n) (hid2 : id ≤ 1152921504606846976) (hl : h.length < 100000000) (hn : n ≤ 1000000000000000) :
    Calls Tryz.prog 118 #[.pointer (some ⟨a, 0, none⟩), .int .i64 id] w fun e w' => (∃ b, e = .returned (.bool b)) ∧ ∃ v', AgdAt w' a m v' (putA h id) (n + 1) ∧ Turn (foot a m v) w w' ∧ ∀ j, foot a m v' j → foot a m v j ∨ w.heap.size ≤ j := by
  have hmono : AgdAt w a m v h (n + 1) := by
    obtain ⟨D, ho, hD⟩ := s.set
    exact ⟨s.blk, s.row, ⟨D, ho.mono (Nat.le_succ n), hD⟩, s.ne1, s.ne2, s.ne3, s.pos, s.nodup, s.len⟩
  by_cases hid : id < 1
  · have e0 : putA h id = h := if_pos (.inl hid)
    refine (agd_put_no a id w hid).mono ?_
    rintro e w' ⟨rfl, rfl⟩
    exact ⟨⟨_, rfl⟩, v, by rw [e0]; exact hmono, Turn.refl _ _, fun j hj => .inl hj⟩
  · by_cases hin : id ∈ h
    · have e0 : putA h id = h := if_pos (.inr hin)
      refine (agd_put_in a m n v h id w s (by omega) hid2 hin).mono ?_
      rintro e w' ⟨rfl, hb⟩
      exact ⟨⟨_, rfl⟩, v, by rw [e0]; exact hmono.turned (Below.turn hb fun _ => False) fun _ _ k => k, Below.turn hb _, fun j hj => .inl hj⟩
    · refine (agd_put_new a m n v h id w s (by omega) hid2 hin hl hn).mono ?_
      rintro e w' ⟨rfl, v', h1, h2, h3⟩
      exact ⟨⟨_, rfl⟩, v', h1, h2, h3⟩
end Go.Proofs.YtfjgpjgphdiliaaGreat

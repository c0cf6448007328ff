/- The walk of crew.Text. By the prover of this repo. -/
import Derived.RangeFuncBox
import Derived.Maps.AppendAt
import Derived.Test.YtlnbglpddpgooaaDoorEach
import Derived.Test.YtlnbglpddpgooaaDoorTextM
import Derived.Test.YtlnbglpddpgooaaDoorShelf
import Derived.Test.YtlnbglpddpgooaaDoorInts
namespace Go.Proofs.YtlnbglpddpgooaaDoor
open Go.RowKit Go.Shelf

attribute [local go_sem] Oper.semAt_some

theorem keeps_below {W W' : World} (h : Below W.heap.size W W') : KeepsOthers W W' := ⟨h.size, fun k _ hk _ => (h.block k (Array.getElem?_eq_some_iff.1 hk).1).trans hk⟩
theorem infoStr : (Tryd.prog.info? 9).map (fun i => (i.zero, i.size, i.bytes)) = some (some (.string ByteArray.empty), 1, 16) := by kernel_rfl
def strs (l : List ByteArray) : List Value := l.map Value.string
/-- What crew.Text tells. -/
def textF (s : Nat) : ByteArray × Bool := if s < 281474976710656 then (if rowsF s (bitsL s) = [] then ⟨#[45]⟩ else ⟨(Lib.join ((rowsF s (bitsL s)).map (·.data.toList)) [44]).toArray⟩, true) else (⟨#[]⟩, false)

theorem join_len : ∀ R : List ByteArray, (∀ r ∈ R, r.size ≤ 5) → (Lib.join (R.map (·.data.toList)) [44]).length ≤ 6 * R.length
  | [], _ => by rw [List.map_nil, Lib.join_nil]; simp
  | r :: R, h => by
    rw [List.map_cons, Lib.join_cons, List.length_append]
    have h1 := h r (by simp)
    have h2 : (Lib.joinTail [44] (R.map (·.data.toList))).length ≤ 6 * R.length := by
      have hR : ∀ x ∈ R, x.size ≤ 5 := fun x hx => h x (by simp [hx])
      clear h h1
      unfold Lib.joinTail
      induction R with
      | nil => simp
      | cons x R ih =>
        have hx := hR x (by simp)
        have := ih (fun y hy => hR y (by simp [hy]))
        have e : x.data.toList.length = x.size := by simp
        simp only [List.map_cons, List.flatten_cons, List.length_append, List.length_cons, List.length_nil] at *
        omega
    have e : r.data.toList.length = r.size := by simp
    rw [List.length_cons]; omega
set_option maxRecDepth 100000 in
set_option maxHeartbeats 4000000 in
theorem crew_text (s : Nat) (hs : s < 18446744073709551616) (w : World) (hT : Tz w) :
    Calls Tryd.prog 25 #[.int .u64 s] w fun e w' => e = .returned (.tuple #[.string (textF s).1, .bool (textF s).2]) ∧ Below w.heap.size w w' := by
  have hR := hide (fun W => crew_right (s : Int) W)
  unfold textF
  by_cases h48 : s < 281474976710656
  · rw [if_pos h48]
    have hd : decide ((s : Int) < 281474976710656) = true := decide_eq_true (by omega)
    rw [hd] at hR
    simp only []
    generalize hTT : (if rowsF (s : Int) (bitsL s) = [] then (⟨#[45]⟩ : ByteArray) else ⟨(Lib.join ((rowsF (s : Int) (bitsL s)).map (·.data.toList)) [44]).toArray⟩) = TT
    replace hTT := hide hTT
    obtain ⟨i0, hi, hz0, hz1', hz2⟩ := info_parts infoStr
    refine (callsIn_wide (n := 9)).1 ?_
    refine callsIn_of_wp_marks Tryd.func25 rfl trivial ?_ rfl
    simp only [Tryd.ntmps25, List.size_toArray, List.length_cons, List.length_nil, Nat.reduceAdd, Nat.reduceSub, Array.replicate_succ, Array.replicate_zero, List.push_toArray, List.append_toArray, List.nil_append, List.cons_append]
    gi_wp2_with (refine ⟨trivial, ?_⟩; first
      | (gi_at_call 20; refine (callsIn_wide.2 (hR.out _)).mono ?_; rintro e w1 ⟨rfl, rfl⟩)
      | (gi_at_call 9; refine (callsIn_wide.2 (crew_each _ _)).mono ?_; rintro e w1 ⟨rfl, rfl⟩))
    have hb1 : Blk (w.alloc (.cells #[.int .u64 (s : Int)] 27)) w.heap.size 27 #[.int .u64 (s : Int)] := Blk.made _ _ _
    have hz1 : (w.alloc (.cells #[.int .u64 (s : Int)] 27)).heap.size = w.heap.size + 1 := by simp
    have hbel0 := balloc0 w (.cells #[.int .u64 (s : Int)] 27)
    generalize hW1 : w.alloc (.cells #[.int .u64 (s : Int)] 27) = W1 at *
    have hB0 : Below (w.heap.size + 1) W1 ((W1.alloc (.cells #[.slice none 0 0] 53)).alloc (.cells #[.int .u64 (s : Int)] 27)) := ((Below.refl (w.heap.size + 1) W1).alloc (by omega) _).alloc (by simp; omega) _
    have bO : Boxed (W1.alloc (.cells #[.slice none 0 0] 53)) (w.heap.size + 1) 53 (.slice none 0 0) := by rw [← hz1]; exact Boxed.new W1 _ _
    have bE := Boxed.new (W1.alloc (.cells #[.slice none 0 0] 53)) 27 (.int .u64 (s : Int))
    rw [World.size_alloc, hz1] at bE
    have hTg := hT.2
    refine wpIn_rangeFunc_ownG rfl (by omega) (gf := 30) (lb := #[.pointer (some ⟨w.heap.size + 1 + 1, 0, none⟩)]) rfl trivial (enters_of Tryd.func30 (by kernel_rfl) rfl)
      (each_stops (9 - 1) (by omega) (w.heap.size + 1 + 1) (w.heap.size + 1) s hs _ bE.lt bE.cell ((hT.of_below (Nat.le_refl _) hbel0).kept (by have h := hB0; rw [← hz1] at h; exact h)) (by omega)) belowK_t (belowK_b (by simp; omega)) (Below.refl _ _) (fun _ => rfl)
      (fun pre W => (∃ v, Boxed W (w.heap.size + 1) 53 v ∧ W.ownsRow (w.heap.size + 1) 9 1 v (rowsF s (pre.map (·.1))).length (strs (rowsF s (pre.map (·.1)))) ∧ True) ∧ Below (w.heap.size + 1) W1 W)
      (fun _ _ _ => False)
      (OwnFrom.and (Own.from (holdsRow_own (w.heap.size + 1) (w.heap.size + 1) 53 9 1 (fun pre : List Sn => (rowsF s (pre.map (·.1))).length) (fun pre => strs (rowsF s (pre.map (·.1)))) (fun _ _ => True)) _) (ownFrom_below (by omega) (by simp; omega)))
      (fun _ _ _ _ _ hs _ _ => hs)
      ⟨⟨_, bO.alloc _, World.ownsRow_nil _ _ _ _, trivial⟩, hB0⟩
      (fun x => { tmps := ((.int .u64 s : Value) :: (.pointer (some ⟨w.heap.size, 0, none⟩) : Value) :: (.string ⟨#[]⟩ : Value) :: (.bool false : Value) :: (.pointer (some ⟨w.heap.size + 1, 0, none⟩) : Value) :: (.int .i64 (x.1 : Int) : Value) :: undef :: undef :: (.int .u64 s : Value) :: (.bool true : Value) :: (.bool false : Value) :: (.int .u64 s : Value) :: (.func (.func 30) #[] #[.pointer (some ⟨w.heap.size + 1 + 1, 0, none⟩)] : Value) :: (.int .i64 (x.1 : Int) : Value) :: undef :: undef :: undef :: undef :: undef :: undef :: undef :: undef :: undef :: undef :: undef :: undef :: undef :: undef :: undef :: undef :: undef :: undef :: undef :: undef :: undef :: undef :: undef :: undef :: undef :: undef :: undef :: undef :: undef :: undef :: []).toArray, defers := [] }) ?assign ?body ?done ?stop
    case assign =>
      intro l x W K hK
      dsimp only [encS]
      gi_wp2
      exact hK
    case body =>
      rintro l pre x W ⟨⟨v, hv, hrow, _⟩, hB⟩ hlt
      have hcs : W.cell? ⟨w.heap.size, 0, none⟩ = some (.int .u64 (s : Int)) := by
        have := (hb1.below hB (by omega)).cell 0
        exact this
      have hx := x.2
      have hlen : (rowsF s (pre.map (·.1))).length ≤ 48 := by
        have := rowsF_length (s : Int) (pre.map (·.1))
        rw [List.length_map] at this
        omega
      have hsn := rowsF_snoc (s : Int) (pre.map (·.1)) x.1
      have hmap : (pre ++ [x]).map (·.1) = pre.map (·.1) ++ [x.1] := by rw [List.map_append]; rfl
      have hH := hide (fun i W' => crew_has (s : Int) i W' (by omega) (by omega))
      obtain ⟨x, hx0⟩ := x
      simp only [] at hx hsn hmap ⊢
      cases hc : hasF (s : Int) ((x : Int) - 1)
      · rw [hc, if_neg (by decide)] at hsn
        have hh := hide (fun W' => hH.out ((x : Int) - 1) W')
        rw [hc] at hh
        gi_wp2_with (refine ⟨trivial, ?_⟩; gi_at_call 22; refine (CallsIn.inRound l (callsIn_wide.2 (hh.out _))).mono ?_; rintro e w1 ⟨rfl, rfl⟩)
        gi_loop [6] (fun e => ∃ k : Int, e = .int .i64 k ∧ (x : Int) ≤ k ∧ k < 48 ∧ Hid (endF s k = endF s x)) (fun e => (48 - intOf e).toNat)
        case atStart => exact ⟨x, rfl, Int.le_refl _, by omega, rfl⟩
        case round =>
          obtain ⟨k, rfl, hk1, hk2, hke⟩ := hrel
          cases hk : hasF (s : Int) (k + 1)
          · have hke2 : Hid (endF (s : Int) x = k) := by show _ = _; rw [← hke.out, endF_off _ _ hk]
            have hh2 := hide (fun W' => hH.out (k + 1) W')
            rw [hk] at hh2
            have hvW := hv
            have hrowW := hrow
            have hcW := hvW.cell
            have hzW : w.heap.size + 1 ≤ W.heap.size := by have := hB.size; omega
            have hdx := hide (fun W' => sheet_digits (x : Int) W' (by omega))
            have hdk := hide (fun W' => sheet_digits k W' (by omega))
            have hsx := digS_size (x : Int) (by omega)
            have hsk := digS_size k (by omega)
            by_cases hxk : (x : Int) < k
            · have hrowE : Hid (rowF (s : Int) x = digS x ++ (⟨#[45]⟩ ++ digS k)) := by show _ = _; unfold rowF; rw [hke2.out, if_pos hxk]
              rw [hrowE.out] at hsn
              generalize digS (x : Int) = dx at *
              generalize digS k = dk at *
              have hcat1 : (⟨#[45]⟩ : ByteArray).size + dk.size ≤ 9223372036854775807 := by show 1 + dk.size ≤ _; omega
              have hcat2 : dx.size + ((⟨#[45]⟩ : ByteArray) ++ dk).size ≤ 9223372036854775807 := by rw [ByteArray.size_append]; show dx.size + (1 + dk.size) ≤ _; omega
              have hsn := hide hsn
              have hmap := hide hmap
              clear hke hke2
              gi_wp2_with (first
                | (refine ⟨trivial, ?_⟩; gi_at_call 22; refine (CallsIn.inRound l (callsIn_wide.2 (hh2.out _))).mono ?_; rintro e w1 ⟨rfl, rfl⟩; clear hh2)
                | (refine ⟨trivial, ?_⟩; gi_at_call 36; refine (CallsIn.inRound l (callsIn_wide.2 (hdx.out W))).mono ?_; rintro e w1 ⟨rfl, hbw1⟩; have hvw1 : Boxed w1 (w.heap.size + 1) 53 v := (hbw1.block _ hvW.lt).trans hvW; have hroww1 := own_kept1 hrowW hbw1; have hcw1 := hvw1.cell; have hzw1 : w.heap.size + 1 ≤ w1.heap.size := Nat.le_trans hzW hbw1.size; have hbHw1 := hide hbw1; clear hbw1 hdx)
                | (refine ⟨trivial, ?_⟩; gi_at_call 36; refine (CallsIn.inRound l (callsIn_wide.2 (hdk.out w1))).mono ?_; rintro e w2 ⟨rfl, hbw2⟩; have hvw2 : Boxed w2 (w.heap.size + 1) 53 v := (hbw2.block _ hvw1.lt).trans hvw1; have hroww2 := own_kept1 hroww1 hbw2; have hcw2 := hvw2.cell; have hzw2 : w.heap.size + 1 ≤ w2.heap.size := Nat.le_trans hzw1 hbw2.size; have hbHw2 := hide hbw2; clear hbw2 hdk)
                | (gi_at_builtin; refine wpListIn_append_own _ rfl _ _ 53 rfl (w.heap.size + 1) 9 i0 (.string ByteArray.empty) 1 16 Tryd.underlying53 hi hz0 hz1' hz2 rfl (by decide) _ _ _ rfl (hroww2.alloc _) ⟨w2.heap.size, 0, none⟩ 1 1 [.string (dx ++ (⟨#[45]⟩ ++ dk))] rfl rfl (cell_one_new _ _ _) (by simp [Value.oneCell']) (by unfold maxLen; omega) (by omega) (by simp; omega) ?_; intro v' w9 hown' hgrow _; obtain ⟨g', cap', rfl⟩ := ownsRow_succ hown'; obtain ⟨hv1, hv2, hr2, hk2, hb2⟩ := hvw2.appended (by decide) hroww2 hzw2 (Nat.le_refl _) hown' hgrow; have hc1 := hv1.cell; have hf1 := hv1.frozen))
              exact ⟨((keeps_below hbHw1.out).trans ((keeps_below hbHw2.out).trans hk2)).from _, ((hbHw1.out.mono hzW).trans (hbHw2.out.mono hzw1)).trans hb2, ⟨_, hv2, by rw [hmap.out, hsn.out]; simpa [strs] using hr2, trivial⟩, hB.trans (((hbHw1.out.mono hzW).trans (hbHw2.out.mono hzw1)).trans hb2)⟩
            · obtain rfl : k = (x : Int) := by omega
              clear hdk
              have hrowE : Hid (rowF (s : Int) x = digS x) := by show _ = _; unfold rowF; rw [hke2.out, if_neg hxk]
              rw [hrowE.out] at hsn
              generalize digS (x : Int) = dx at *
              have hsn := hide hsn
              have hmap := hide hmap
              clear hke hke2
              gi_wp2_with (first
                | (refine ⟨trivial, ?_⟩; gi_at_call 22; refine (CallsIn.inRound l (callsIn_wide.2 (hh2.out _))).mono ?_; rintro e w1 ⟨rfl, rfl⟩; clear hh2)
                | (refine ⟨trivial, ?_⟩; gi_at_call 36; refine (CallsIn.inRound l (callsIn_wide.2 (hdx.out W))).mono ?_; rintro e w1 ⟨rfl, hbw1⟩; have hvw1 : Boxed w1 (w.heap.size + 1) 53 v := (hbw1.block _ hvW.lt).trans hvW; have hroww1 := own_kept1 hrowW hbw1; have hcw1 := hvw1.cell; have hzw1 : w.heap.size + 1 ≤ w1.heap.size := Nat.le_trans hzW hbw1.size; have hbHw1 := hide hbw1; clear hbw1 hdx)
                | (gi_at_builtin; refine wpListIn_append_own _ rfl _ _ 53 rfl (w.heap.size + 1) 9 i0 (.string ByteArray.empty) 1 16 Tryd.underlying53 hi hz0 hz1' hz2 rfl (by decide) _ _ _ rfl (hroww1.alloc _) ⟨w1.heap.size, 0, none⟩ 1 1 [.string dx] rfl rfl (cell_one_new _ _ _) (by simp [Value.oneCell']) (by unfold maxLen; omega) (by omega) (by simp; omega) ?_; intro v' w9 hown' hgrow _; obtain ⟨g', cap', rfl⟩ := ownsRow_succ hown'; obtain ⟨hv1, hv2, hr2, hk2, hb2⟩ := hvw1.appended (by decide) hroww1 hzw1 (Nat.le_refl _) hown' hgrow; have hc1 := hv1.cell; have hf1 := hv1.frozen))
              exact ⟨((keeps_below hbHw1.out).trans hk2).from _, (hbHw1.out.mono hzW).trans hb2, ⟨_, hv2, by rw [hmap.out, hsn.out]; simpa [strs] using hr2, trivial⟩, hB.trans ((hbHw1.out.mono hzW).trans hb2)⟩
          · have hk3 : k + 1 < 48 := by
              refine Int.not_le.1 fun h => ?_
              rw [has_top _ _ h] at hk; cases hk
            have hke2 : Hid (endF (s : Int) (k + 1) = endF (s : Int) x) := by show _ = _; rw [← hke.out, endF_on _ _ (by omega) hk]
            have hh2 := hide (fun W' => hH.out (k + 1) W')
            rw [hk] at hh2
            gi_wp2_with (refine ⟨trivial, ?_⟩; gi_at_call 22; refine (CallsIn.inRound l (callsIn_wide.2 (hh2.out _))).mono ?_; rintro e w1 ⟨rfl, rfl⟩; clear hh2)
            go_round
            case rel => exact ⟨k + 1, rfl, by omega, hk3, hke2⟩
            case measure => simp [intOf]; omega
      · rw [hc, if_pos rfl, List.append_nil] at hsn
        have hh := hide (fun W' => hH.out ((x : Int) - 1) W')
        rw [hc] at hh
        have hsn := hide hsn
        have hmap := hide hmap
        gi_wp2_with (refine ⟨trivial, ?_⟩; gi_at_call 22; refine (CallsIn.inRound l (callsIn_wide.2 (hh.out _))).mono ?_; rintro e w1 ⟨rfl, rfl⟩)
        exact ⟨KeepsFrom.refl _ _, Below.refl _ _, ⟨v, hv, by rw [hmap.out, hsn.out]; exact hrow, trivial⟩, hB⟩
    case done =>
      rintro D ys W hD hys ⟨⟨v, hv, hrow, _⟩, hB⟩ hK
      rw [Nat.mod_eq_of_lt h48] at hys
      simp only [hys] at hrow
      have hc := hv.cell
      have hzD : w.heap.size + 1 + 1 < D := by simp at hD; omega
      have hbw : Below w.heap.size w W := hbel0.trans (hB.mono (by omega))
      have hrs : ∀ r ∈ rowsF (s : Int) (bitsL s), r.size ≤ 5 := fun r hr => by
        unfold rowsF at hr
        obtain ⟨i, hi, rfl⟩ := List.mem_map.1 hr
        exact rowF_size _ _ (bitsL_lt (List.mem_filter.1 hi).1)
      have hrl : (rowsF (s : Int) (bitsL s)).length ≤ 48 := Nat.le_trans (rowsF_length _ _) (bitsL_length _)
      obtain ⟨A, c, rfl, hA, hcc, hcm⟩ := own_form hrow
      generalize rowsF (s : Int) (bitsL s) = R at *
      by_cases h0 : R = []
      · subst h0
        have hTe : Hid (TT = ⟨#[45]⟩) := by show _ = _; rw [← hTT.out, if_pos rfl]
        have hbw := hide hbw
        clear hrow hrs
        simp only [List.length_nil] at hc hA hcc hv ⊢
        gi_wp2
        refine ⟨by simp, .inl ⟨_, _, rfl, run_takeDeferred hK, ?_⟩⟩
        exact ⟨_, results_tmp2 rfl _ _ _, by rw [hTe.out]; rfl, hbw.out.trans (belowK_b (w := w) (Nat.le_refl _) W D _ _ (by omega) hK rfl rfl)⟩
      · have hTe : Hid (TT = ⟨(Lib.join (R.map (·.data.toList)) [44]).toArray⟩) := by show _ = _; rw [← hTT.out, if_neg h0]
        have hn0 : R.length ≠ 0 := fun h => h0 (List.eq_nil_of_length_eq_zero h)
        have hrd := own_rd hrow
        obtain ⟨bk, o, rfl, hbk, hcell⟩ := hrd (by omega)
        have hJ := hide (Tryd.strings_Join bk o c R ⟨#[44]⟩ W (fun j x hj => by
          have hjl := (List.getElem?_eq_some_iff.1 hj).1
          rw [hcell j (by omega)]
          have e := (List.getElem?_eq_some_iff.1 hj).2
          simp [strs, hj]) hbk (by omega) hcc (by have := join_len R hrs; show (Lib.join (R.map (·.data.toList)) [44]).length ≤ _; omega))
        obtain ⟨nr, hnr⟩ : ∃ nr, Hid (R.length = nr) := ⟨_, rfl⟩
        have hbw := hide hbw
        clear hrow hrs hrd hcell
        rw [hnr.out] at hJ hc hn0 hrl hcc
        have hlen : ((nr : Int) == 0) = false := by simpa using hn0
        gi_wp2_with (refine ⟨trivial, ?_⟩; gi_at_call 37; refine (callsIn_wide.2 hJ.out).mono ?_; rintro e w5 ⟨rfl, hb5⟩)
        refine ⟨by simp, .inl ⟨_, _, rfl, run_takeDeferred ((hb5.block D (Array.getElem?_eq_some_iff.1 hK).1).trans hK), ?_⟩⟩
        exact ⟨_, results_tmp2 rfl _ _ _, by rw [hTe.out]; rfl, (bthen hbw.out hb5).trans (belowK_b (w := w) (Nat.le_refl _) w5 D _ _ (by omega) ((hb5.block D (Array.getElem?_eq_some_iff.1 hK).1).trans hK) rfl rfl)⟩
    case stop =>
      rintro D c pre W _ _ h _
      exact h.elim
  · rw [if_neg h48]
    have hd : decide ((s : Int) < 281474976710656) = false := decide_eq_false (by omega)
    rw [hd] at hR
    have hb0 := hide (balloc0 w (.cells #[.int .u64 (s : Int)] 27))
    go_enter Tryd.func25, Tryd.ntmps25
    go_wp2_with (go_at_call 20; refine (hR.out _).mono ?_; rintro e w1 ⟨rfl, rfl⟩)
    go_ret2
    exact ⟨rfl, hb0.out⟩
end Go.Proofs.YtlnbglpddpgooaaDoor

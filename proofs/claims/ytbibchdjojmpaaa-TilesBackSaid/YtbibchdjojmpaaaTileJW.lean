/- The walks of layer 5, on: Join. By the prover of this repo. -/
import Derived.Test.YtbibchdjojmpaaaTileS
import Derived.Test.YtbibchdjojmpaaaStk
namespace Go.Proofs.Ytbibchdjojmpaaa
open Go.RowKit
open TwigM TileM

/-- What the program's Join tells. -/
def joinL (L : Int) (l : List Int) : List Int := if allB L l = true then joinR L l else []
def Stack' (L : Int) (S : List Int) : Prop := ∀ t ∈ S, Nd L t

theorem stk_last {w : World} {base : Nat} {v : Value} {t : Int} {S : List Int} (h : Stk w base 3 v (t :: S).length (iv (t :: S).reverse)) :
    ∃ g cap, v = .slice (some ⟨g, 0, none⟩) (S.length + 1) cap ∧ base ≤ g ∧ g < w.heap.size ∧ w.cell? ⟨g, S.length, none⟩ = some (.int .i64 t) ∧ S.length + 1 ≤ cap ∧ cap ≤ maxLen ∧
      Stk w base 3 (.slice (some ⟨g, 0, none⟩) S.length S.length) S.length (iv S.reverse) := by
  have h0 := h
  rcases h.2 with ⟨_, h2⟩ | ⟨g, cap, cur, rfl, k1, k2, k3, k4, k5, k6⟩
  · simp at h2
  · refine ⟨g, cap, rfl, k1, (Array.getElem?_eq_some_iff.1 k2).1, ?_, k3, k4, ?_⟩
    · obtain ⟨b, off, e, _, hc⟩ := h0.rd (by simp)
      injection e with e
      injection e with e1 e2
      subst e1 e2
      have := hc S.length (by simp)
      rw [Nat.zero_add] at this
      rw [this]
      simp [iv]
    · rw [List.reverse_cons, iv_append] at h0
      exact h0.cut
theorem merge_on {t x : Int} {S : List Int} (h : xor1 t = x) : mergeUp (t :: S) x = mergeUp S (x / 2) := by rw [mergeUp, if_pos h]
theorem merge_off {t x : Int} {S : List Int} (h : ¬ xor1 t = x) : mergeUp (t :: S) x = x :: t :: S := by rw [mergeUp, if_neg h]
theorem pair_half {L t x : Int} (ht : Nd L t) (hx : Nd L x) (h : xor1 t = x) : Nd L (x / 2) := by
  refine hx.half ?_
  have := ht.a
  have := hx.a
  unfold xor1 at h
  split at h <;> omega

theorem xor1_bits {t : Int} (h1 : 1 ≤ t) (h2 : t < 562949953421312) : bits .xor .i64 t 1 = xor1 t := by
  have h := xor_one t.toNat (by omega)
  rw [show ((t.toNat : Nat) : Int) = t by omega] at h
  rw [h]; rfl
/-- Between two rounds: how many are done, the stack, what comes of the rest. -/
def JRel (L : Int) (l : List Int) (G : List Int) (wc : World) (top idx : Value) (wr : World) : Prop :=
  ∃ (i : Nat) (S : List Int), idx = .int .i64 i ∧ i ≤ l.length ∧ Stack' L S ∧ S.length ≤ i ∧ Stk wr wc.heap.size 3 top S.length (iv S.reverse) ∧ Hid (joinGo S (l.drop i) = G) ∧ Below wc.heap.size wc wr
def MRel (L : Int) (r : List Int) (G : List Int) (wc : World) (i : Nat) (top id n : Value) (wr : World) : Prop :=
  ∃ (x : Int) (S : List Int), id = .int .i64 x ∧ n = .int .i64 S.length ∧ Nd L x ∧ Stack' L S ∧ S.length ≤ i ∧ Stk wr wc.heap.size 3 top S.length (iv S.reverse) ∧ Hid (joinGo (mergeUp S x) r = G) ∧ Below wc.heap.size wc wr

set_option maxRecDepth 100000 in
set_option maxHeartbeats 4000000 in
theorem tiles_join (L : Int) (A : Option Addr) (c : Nat) (l : List Int) (w : World) (hr : Rd w A l.length 1 (ic l)) (hA : A = none → l.length = 0) (hl : l.length ≤ 100000) :
    Calls Try.prog 22 #[.int .i64 L, .slice A l.length c] w fun e w' => ∃ v, e = .returned (.tuple #[v, .bool (allB L l)]) ∧ Its w' v (joinL L l) ∧ Below w.heap.size w w' := by
  have hall := hide (fun W (h : Rd W A l.length 1 (ic l)) => all_c L A c l W h (by omega))
  have hclo := hide (fun W (h : Rd W A l.length 1 (ic l)) => clone_ints A c l W h hA (by omega))
  have hb0 := hide (balloc0 w (.cells #[.int .i64 L] 3))
  have hr0 := hr.alloc (.cells #[.int .i64 L] 3)
  replace hr0 := hide hr0
  clear hr
  cases hq : allB L l
  · have e : joinL L l = [] := by unfold joinL; rw [hq]; rfl
    rw [e]
    have h1 := hall.out _ hr0.out
    rw [hq] at h1
    replace h1 := hide h1
    clear e hq hclo hall
    go_enter Try.func22, Try.ntmps22
    go_wp2_with (go_at_call 44; refine h1.out.mono ?_; rintro e w1 ⟨rfl, rfl⟩)
    go_ret2
    exact ⟨_, rfl, Its.nil _, hb0.out⟩
  · obtain ⟨hL1, hL2, hN⟩ := nd_of_all hq
    have h1 := hall.out _ hr0.out
    have h2 := hclo.out _ hr0.out
    rw [hq] at h1
    replace h1 := hide h1
    replace h2 := hide h2
    have e : Hid (joinL L l = joinR L l) := by show _ = _; unfold joinL; rw [hq]; rfl
    have hcell := (Blk.made w 3 #[.int .i64 L]).cell 0
    simp only [List.getElem?_toArray, List.getElem?_cons_zero] at hcell
    have hcell := hide hcell
    obtain ⟨n, hn⟩ : ∃ n, Hid (l.length = n) := ⟨_, rfl⟩
    replace hN := hide hN
    have hll := hide hl
    rw [hn.out] at h1 h2 hl ⊢
    clear hq hall hclo hA
    go_enter Try.func22, Try.ntmps22
    go_wp2_with (first
      | (go_at_call 44; refine h1.out.mono ?_; rintro e w1 ⟨rfl, rfl⟩)
      | (go_at_call 45; refine h2.out.mono ?_; rintro e w1 ⟨v1, rfl, how1, hb1⟩; have how1 := hide how1; have hb1 := hide hb1))
    have hsz : (w.alloc (.cells #[.int .i64 L] 3)).heap.size = w.heap.size + 1 := by simp
    have hsz1 : w.heap.size + 1 ≤ w1.heap.size := by have := hb1.out.size; omega
    have hcell1 : w1.cell? ⟨w.heap.size, 0, none⟩ = some (.int .i64 L) := (hb1.out.cell (p := ⟨w.heap.size, 0, none⟩) (by show w.heap.size < _; omega)).trans hcell.out
    have hS := sort_c L w.heap.size (w.heap.size + 1) v1 l w1 hN.out (by rw [hn.out]; omega) (by rw [← hsz, hn.out]; exact how1.out) hcell1 (by omega) hsz1
    clear hcell1
    refine hS.mono ?_
    rintro e w2 ⟨rfl, l', hmem, hlen, hbef, hits, hb2⟩
    have hG : Hid ((joinGo [] l').reverse = joinL L l) := by show _ = _; rw [e.out]; exact join_eq hL1 hL2 hN.out hmem hbef
    have hN' : Hid (∀ t ∈ l', Nd L t) := fun t ht => hN.out t ((hmem t).1 ht)
    have hb3 : Hid (Below w.heap.size w w2) := (hb0.out.trans (hb1.out.mono (by omega))).trans (hb2.mono (by omega))
    obtain ⟨A2, c2, rfl, hA2, hc2, hc3, hr2⟩ := hits
    rw [hn.out] at hlen
    rw [hlen] at hA2 hc2 ⊢
    have hlen2 := hide hlen
    replace hr2 := hide hr2
    generalize hGe : joinGo [] l' = G at *
    replace hGe := hide hGe
    clear hb0 hr0 h1 h2 hcell hN hll hmem hbef hb1 hb2 how1 hsz hsz1 hlen hS e
    go_wp2_with fail
    go_loopw [7, 23] (fun top idx wr => JRel L l' G w2 top idx wr) (fun _ idx _ => n - (intOf idx).toNat)
    case atStart => exact ⟨0, [], rfl, Nat.zero_le _, (fun t h => by cases h), Nat.le_refl _, Stk.nil _ _ _, by show _ = _; rw [List.drop_zero]; exact hGe.out, Below.refl _ _⟩
    case round =>
      obtain ⟨i, S, rfl, hi, hSN, hSi, hst, hgo, hbel⟩ := hrel
      rw [hlen2.out] at hi
      by_cases hlt : i < n
      · have hil : i < l'.length := by rw [hlen2.out]; exact hlt
        obtain ⟨b, off, rfl, hbs, hc⟩ := it_at (hr2.out.of_below (Nat.le_refl _) hbel) hil
        rw [List.drop_eq_getElem_cons hil, joinGo] at hgo
        have hxN := hN'.out l'[i] (List.getElem_mem hil)
        generalize l'[i] = x at *
        have hx1 := hxN.a
        have hx2 : x < 562949953421312 := by have := hxN.b; have := pw_le48 hxN.l2; omega
        cases S with
        | nil =>
          have hgo2 : Hid (joinGo (mergeUp [] x) (l'.drop (i + 1)) = G) := hgo
          obtain ⟨At, ct, rfl, ht1, ht2, ht3⟩ := hst.form
          replace hst := hide hst
          clear hgo
          simp only [List.length_nil] at hst ⊢
          go_wp2_with fail
          go_loopw [7, 9, 11] (fun top id m wq => MRel L (l'.drop (i + 1)) G w2 i top id m wq) (fun _ _ m _ => (intOf m).toNat)
          case atStart => exact ⟨x, [], rfl, rfl, hxN, hSN, hSi, hst.out, hgo2, hbel⟩
          case round =>
            clear hst hSi hSN hxN hx1 hx2 hgo2
            obtain ⟨x, S, rfl, rfl, hxN, hSN, hSi, hst, hgo, hbel⟩ := hrel
            have hx1 := hxN.a
            have hx2 : x < 562949953421312 := by have := hxN.b; have := pw_le48 hxN.l2; omega
            cases S with
            | nil =>
              have hgo2 : Hid (joinGo [x] (l'.drop (i + 1)) = G) := hgo
              obtain ⟨At, ct, rfl, ht1, ht2, ht3⟩ := hst.form
              have hst := hide hst
              have hz := hbel.size
              have hbel := hide hbel
              simp only [List.length_nil] at hst ⊢
              go_wp2_with (at_builtin; refine wpList_stk1 elInt rfl (.tmp 64) (.tmp 66) rfl w2.heap.size _ _ _ (.int .i64 x) 3 rfl hst.out rfl rfl (by omega) (by omega) ?_; intro v3 w3 hst3 hb3; have hst3 := hide hst3; have hb3 := hide hb3)
              go_roundw
              case rel => exact ⟨i + 1, [x], rfl, by rw [hlen2.out]; omega, (fun t h => by rcases List.mem_singleton.1 h with rfl; exact hxN), by simp, hst3.out, hgo2, hbel.out.trans hb3.out⟩
              case measure => simp [intOf]; omega
            | cons t S =>
              obtain ⟨g, cap, rfl, hg1, hg2, hg3, hg4, hg5, hcut⟩ := stk_last hst
              have ht := hSN t (by simp)
              have ht1 := ht.a
              have ht2 : t < 562949953421312 := by have := ht.b; have := pw_le48 ht.l2; omega
              obtain ⟨m, hm⟩ : ∃ m, Hid (S.length = m) := ⟨_, rfl⟩
              simp only [List.length_cons] at hst hSi ⊢
              rw [hm.out] at hg3 hg4 hcut hst hSi ⊢
              have hz := hbel.size
              by_cases hx : xor1 t = x
              · rw [merge_on hx] at hgo
                have hN2 := pair_half ht hxN hx
                have hxx := xor1_bits ht1 ht2
                rw [hx] at hxx
                replace hst := hide hst
                replace hcut := hide hcut
                replace hbel := hide hbel
                replace hx := hide hx
                go_wp2_with fail
                go_roundw
                case rel => exact ⟨x / 2, S, rfl, by rw [hm.out], hN2, (fun q hq => hSN q (by simp [hq])), by rw [hm.out]; omega, by rw [hm.out]; exact hcut.out, hgo, hbel.out⟩
                case measure => simp [intOf]
              · rw [merge_off hx] at hgo
                have hxx := xor1_bits ht1 ht2
                have hst2 : Hid (Stk wr w2.heap.size 3 (.slice (some ⟨g, 0, none⟩) (m + 1) cap) (m + 1) (iv (t :: S).reverse)) := hst
                generalize xor1 t = y at hxx hx
                replace hbel := hide hbel
                clear hcut hst
                go_wp2_with (at_builtin; refine wpList_stk1 elInt rfl (.tmp 64) (.tmp 66) rfl w2.heap.size _ _ _ (.int .i64 x) 3 rfl hst2.out rfl rfl (by omega) (by omega) ?_; intro v3 w3 hst3 hb3; have hst3 := hide hst3; have hb3 := hide hb3)
                go_roundw
                case rel => exact ⟨i + 1, x :: t :: S, rfl, by rw [hlen2.out]; omega, (fun q hq => by rcases List.mem_cons.1 hq with rfl | hq; exact hxN; exact hSN q hq), by simp only [List.length_cons]; rw [hm.out]; omega, by rw [List.length_cons, List.length_cons, hm.out, List.reverse_cons, iv_append]; exact hst3.out, hgo, hbel.out.trans hb3.out⟩
                case measure => simp [intOf]; omega
        | cons t S =>
          obtain ⟨g, cap, rfl, hg1, hg2, hg3, hg4, hg5, hcut⟩ := stk_last hst
          have ht := hSN t (by simp)
          have ht2 : t ≤ 9223372036854775807 := by have := ht.b; have := pw_le48 ht.l2; omega
          obtain ⟨m, hm⟩ : ∃ m, Hid (S.length = m) := ⟨_, rfl⟩
          have hSi0 := hide hSi
          have hst0 := hide hst
          simp only [List.length_cons] at hst hSi ⊢
          rw [hm.out] at hg3 hg4 hst hSi ⊢
          have hz := hbel.size
          have hA2 := fun W => above_c t x W ht2 (by omega)
          rw [headB] at hgo
          replace hst := hide hst
          clear hcut
          cases hab : aboveB t x
          · rw [hab, if_neg (by decide)] at hgo
            rw [hab] at hA2
            replace hA2 := hide hA2
            have hgo2 : Hid (joinGo (mergeUp (t :: S) x) (l'.drop (i + 1)) = G) := hgo
            have hbel0 := hide hbel
            clear hgo hab
            go_wp2_with (go_at_call 49; refine (hA2.out _).mono ?_; rintro e w1 ⟨rfl, rfl⟩)
            go_loopw [7, 9, 11] (fun top id m wq => MRel L (l'.drop (i + 1)) G w2 i top id m wq) (fun _ _ m _ => (intOf m).toNat)
            case atStart => exact ⟨x, t :: S, rfl, by rw [List.length_cons, hm.out]; rfl, hxN, hSN, hSi0.out, by rw [List.length_cons, hm.out]; exact hst.out, hgo2, hbel0.out⟩
            case round =>
              clear hst hst0 hSi0 hSi hSN hxN hx1 hx2 hgo2 hm hg1 hg2 hg3 hg4 hg5 ht ht2 hz hA2 hbel hbel0
              obtain ⟨x, S, rfl, rfl, hxN, hSN, hSi, hst, hgo, hbel⟩ := hrel
              have hx1 := hxN.a
              have hx2 : x < 562949953421312 := by have := hxN.b; have := pw_le48 hxN.l2; omega
              cases S with
              | nil =>
                have hgo2 : Hid (joinGo [x] (l'.drop (i + 1)) = G) := hgo
                obtain ⟨At, ct, rfl, ht1, ht2, ht3⟩ := hst.form
                have hst := hide hst
                have hz := hbel.size
                have hbel := hide hbel
                simp only [List.length_nil] at hst ⊢
                go_wp2_with (at_builtin; refine wpList_stk1 elInt rfl (.tmp 64) (.tmp 66) rfl w2.heap.size _ _ _ (.int .i64 x) 3 rfl hst.out rfl rfl (by omega) (by omega) ?_; intro v3 w3 hst3 hb3; have hst3 := hide hst3; have hb3 := hide hb3)
                go_roundw
                case rel => exact ⟨i + 1, [x], rfl, by rw [hlen2.out]; omega, (fun t h => by rcases List.mem_singleton.1 h with rfl; exact hxN), by simp, hst3.out, hgo2, hbel.out.trans hb3.out⟩
                case measure => simp [intOf]; omega
              | cons t S =>
                obtain ⟨g, cap, rfl, hg1, hg2, hg3, hg4, hg5, hcut⟩ := stk_last hst
                have ht := hSN t (by simp)
                have ht1 := ht.a
                have ht2 : t < 562949953421312 := by have := ht.b; have := pw_le48 ht.l2; omega
                obtain ⟨m, hm⟩ : ∃ m, Hid (S.length = m) := ⟨_, rfl⟩
                simp only [List.length_cons] at hst hSi ⊢
                rw [hm.out] at hg3 hg4 hcut hst hSi ⊢
                have hz := hbel.size
                by_cases hx : xor1 t = x
                · rw [merge_on hx] at hgo
                  have hN2 := pair_half ht hxN hx
                  have hxx := xor1_bits ht1 ht2
                  rw [hx] at hxx
                  replace hst := hide hst
                  replace hcut := hide hcut
                  replace hbel := hide hbel
                  replace hx := hide hx
                  go_wp2_with fail
                  go_roundw
                  case rel => exact ⟨x / 2, S, rfl, by rw [hm.out], hN2, (fun q hq => hSN q (by simp [hq])), by rw [hm.out]; omega, by rw [hm.out]; exact hcut.out, hgo, hbel.out⟩
                  case measure => simp [intOf]
                · rw [merge_off hx] at hgo
                  have hxx := xor1_bits ht1 ht2
                  have hst2 : Hid (Stk wr w2.heap.size 3 (.slice (some ⟨g, 0, none⟩) (m + 1) cap) (m + 1) (iv (t :: S).reverse)) := hst
                  generalize xor1 t = y at hxx hx
                  replace hbel := hide hbel
                  clear hcut hst
                  go_wp2_with (at_builtin; refine wpList_stk1 elInt rfl (.tmp 64) (.tmp 66) rfl w2.heap.size _ _ _ (.int .i64 x) 3 rfl hst2.out rfl rfl (by omega) (by omega) ?_; intro v3 w3 hst3 hb3; have hst3 := hide hst3; have hb3 := hide hb3)
                  go_roundw
                  case rel => exact ⟨i + 1, x :: t :: S, rfl, by rw [hlen2.out]; omega, (fun q hq => by rcases List.mem_cons.1 hq with rfl | hq; exact hxN; exact hSN q hq), by simp only [List.length_cons]; rw [hm.out]; omega, by rw [List.length_cons, List.length_cons, hm.out, List.reverse_cons, iv_append]; exact hst3.out, hgo, hbel.out.trans hb3.out⟩
                  case measure => simp [intOf]; omega
          · rw [hab, if_pos rfl] at hgo
            rw [hab] at hA2
            replace hA2 := hide hA2
            have hbel0 := hide hbel
            clear hab
            go_wp2_with (go_at_call 49; refine (hA2.out _).mono ?_; rintro e w1 ⟨rfl, rfl⟩)
            go_roundw
            case rel => exact ⟨i + 1, t :: S, rfl, by rw [hlen2.out]; omega, hSN, by rw [List.length_cons, hm.out]; omega, by rw [List.length_cons, hm.out]; exact hst.out, hgo, hbel0.out⟩
            case measure => simp [intOf]; omega
      · have hin : i = n := by omega
        have hres : Hid (S = G) := by show _ = _; rw [← hgo.out, hin, ← hlen2.out, List.drop_length]; rfl
        obtain ⟨At, ct, rfl, ht1, ht2, ht3⟩ := hst.form
        have hits : Hid (Its wr (.slice At S.length ct) (joinL L l)) := by
          show Its _ _ _
          rw [← hG.out, ← hres.out]
          refine Stk.its (base := w2.heap.size) (e := 3) ?_
          rw [List.length_reverse]; exact hst
        have hbel3 : Hid (Below w.heap.size w wr) := hb3.out.trans (hbel.mono hb3.out.size)
        clear hst hbel hSN hi
        go_wp2_with fail
        go_ret2
        exact ⟨_, rfl, hits.out, hbel3.out⟩
end Go.Proofs.Ytbibchdjojmpaaa

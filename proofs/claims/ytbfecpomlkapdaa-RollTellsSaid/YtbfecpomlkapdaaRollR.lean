/- The walks of layer 6, on: the reference's list in the order of last values. By the prover of this repo. -/
import Derived.Test.YtbfecpomlkapdaaRollQ
import Derived.Test.YtbfecpomlkapdaaRollY
namespace Go.Proofs.Ytbfecpomlkapdaa
open Go.RowKit
open TwigM RollM

set_option maxHeartbeats 4000000 in
theorem ref06_ahead (L : Int) (x y : Nd) (w : World) (hx : x.1 ≤ 9223372036854775807) (hy : y.1 ≤ 9223372036854775807) : Calls Try.prog 62 #[.int .i64 L, nv x, nv y] w fun e w' => e = .returned (.bool (ltP L x y)) ∧ Below w.heap.size w w' := by
  obtain ⟨x1, x2⟩ := x
  obtain ⟨y1, y2⟩ := y
  have h1 := fun W => rends_c L x1 W hx
  have h2 := fun W => rends_c L y1 W hy
  unfold ltP endF
  simp only
  generalize endsF L x1 = p at *
  generalize endsF L y1 = q at *
  obtain ⟨p0, p1, p2⟩ := p
  obtain ⟨q0, q1, q2⟩ := q
  simp only
  replace h1 := hide h1
  replace h2 := hide h2
  clear hx hy
  by_cases c1 : p1 < q1
  · have hd : Hid (decide (p1 < q1 ∨ p1 = q1 ∧ y1 < x1) = true) := decide_eq_true (.inl c1)
    go_enter Try.func62, Try.ntmps62
    go_wp2_with fail
    refine (h1.out _).mono ?_
    rintro e w1 ⟨rfl, rfl⟩
    go_wp2_with fail
    refine (h2.out _).mono ?_
    rintro e w1 ⟨rfl, rfl⟩
    go_wp2_with fail
    go_ret
    exact ⟨by rw [hd.out]; rfl, balloc (balloc0 _ _) _⟩
  · have c1f : decide (p1 < q1) = false := decide_eq_false c1
    by_cases c2 : p1 = q1
    · subst c2
      have hd : Hid (decide (p1 < p1 ∨ p1 = p1 ∧ y1 < x1) = decide (y1 < x1)) := by show _ = _; simp
      go_enter Try.func62, Try.ntmps62
      go_wp2_with fail
      refine (h1.out _).mono ?_
      rintro e w1 ⟨rfl, rfl⟩
      go_wp2_with fail
      refine (h2.out _).mono ?_
      rintro e w1 ⟨rfl, rfl⟩
      go_wp2_with fail
      go_ret
      exact ⟨by rw [hd.out]; rfl, balloc (balloc0 _ _) _⟩
    · have c2f : (p1 == q1) = false := by simpa using c2
      have hd : Hid (decide (p1 < q1 ∨ p1 = q1 ∧ y1 < x1) = false) := decide_eq_false (fun h => h.elim c1 (fun h => c2 h.1))
      clear c2
      go_enter Try.func62, Try.ntmps62
      go_wp2_with fail
      refine (h1.out _).mono ?_
      rintro e w1 ⟨rfl, rfl⟩
      go_wp2_with fail
      refine (h2.out _).mono ?_
      rintro e w1 ⟨rfl, rfl⟩
      go_wp2_with fail
      go_ret
      exact ⟨by rw [hd.out]; rfl, balloc (balloc0 _ _) _⟩

set_option maxRecDepth 100000 in
set_option maxHeartbeats 4000000 in
theorem ref06_post (L : Int) (A : Option Addr) (c : Nat) (l : List Nd) (w : World) (hr : Rd w A l.length 2 (ndc l)) (hl : l.length ≤ 1000000) (hwf : NdWf l) :
    Calls Try.prog 41 #[.int .i64 L, .slice A l.length c] w fun e w' => ∃ v, e = .returned (.tuple #[v, .bool (postF L l).2]) ∧ Ndo w' v (postF L l).1 ∧ Below w.heap.size w w' := by
  have hR := ref06_right L A c l w hr hl hwf
  unfold postF
  cases hrb : rollB L l
  · rw [hrb] at hR
    replace hR := hide hR
    clear hrb hr
    generalize l.length = n at *
    go_enter Try.func41, Try.ntmps41
    go_wp2_with fail
    refine hR.out.mono ?_
    rintro e w1 ⟨rfl, hb1⟩
    go_wp2_with fail
    go_ret2
    exact ⟨_, rfl, .inl ⟨rfl, rfl⟩, hb1⟩
  rw [hrb] at hR
  rw [if_pos rfl]
  replace hR := hide hR
  clear hrb
  obtain ⟨n, hn⟩ : ∃ n, Hid (l.length = n) := ⟨_, rfl⟩
  rw [hn.out] at hl
  have hrn : Hid (Rd w A l.length 2 (ndc l)) := hr
  rw [hn.out] at hR
  rw [hn.out]
  clear hr
  go_enter Try.func41, Try.ntmps41
  go_wp2_with fail
  refine hR.out.mono ?_
  rintro e w1 ⟨rfl, hbR⟩
  go_wp2_with fail
  go_loopw [6, 7] (fun v k wr => ∃ (i : Nat), i ≤ n ∧ k = .int .i64 i ∧ Hid (Ndo wr v (isort (ltP L) (l.take i))) ∧ Below w.heap.size w wr) (fun _ k _ => n - (intOf k).toNat)
  case atStart => exact ⟨0, by omega, rfl, .inl ⟨rfl, rfl⟩, hbR⟩
  case round =>
    obtain ⟨i, hi, rfl, hv, hbel⟩ := hrel
    by_cases hlt : i < n
    · have hil : i < l.length := by rw [hn.out]; exact hlt
      obtain ⟨b, off, rfl, hb, c0, c1⟩ := rd_at (hrn.out.of_below (Nat.le_refl _) hbel) hil
      have htk : Hid (l.take (i + 1) = l.take i ++ [l[i]]) := List.take_succ_eq_append_getElem hil
      have hml : Hid ((isort (ltP L) (l.take i)).length = i) := by show _ = _; rw [isort_length, List.length_take, hn.out]; omega
      have hxw := (hwf l[i] (List.getElem_mem hil)).2.1
      generalize l[i] = x at *
      obtain ⟨x1, x2⟩ := x
      simp only at c0 c1 hxw
      obtain ⟨Ao, co, rfl⟩ := hv.out.len
      generalize hQ : isort (ltP L) (l.take i) = Q at *
      replace hQ := hide hQ
      rw [hml.out] at hv ⊢
      obtain ⟨wo, rfl⟩ : ∃ wo : World, wo = wr := ⟨_, rfl⟩
      have hb0 := hbel.size
      go_wp2_with fail
      go_loopw [8] (fun a wi => ∃ (j : Nat), j ≤ i ∧ a = .int .i64 j ∧ Hid (Behind (ltP L) (x1, x2) Q j) ∧ Below wo.heap.size wo wi) (fun a _ => (intOf a).toNat)
      case atStart => exact ⟨i, by omega, rfl, by have := Behind.end_ (ltP L) (x1, x2) Q; rw [hml.out] at this; exact this, Below.refl _ _⟩
      case round =>
        obtain ⟨j, hj, rfl, hB, hbi⟩ := hrel
        have hPut : Hid (∀ w2, Below wo.heap.size wo w2 → ∀ y, y = nv (x1, x2) → Calls Try.prog 63 #[.slice Ao i co, .int .i64 j, y] w2 fun e w' => ∃ v', e = .returned v' ∧ Ndo w' v' (Q.take j ++ (x1, x2) :: Q.drop j) ∧ Below w2.heap.size w2 w') := by
          intro w2 h2 y hy
          subst hy
          exact ref06_put _ j (x1, x2) Q w2 (hv.out.kept h2) (by rw [hml.out]; exact hj) (by rw [hml.out]; omega)
        have hbel2 : Hid (∀ w2 w1 : World, Below wo.heap.size wo w2 → Below w2.heap.size w2 w1 → Below w.heap.size w w1) := fun w2 w1 h2 h1 => hbel.trans ((h2.trans (h1.mono h2.size)).mono hb0)
        have c0w := hide (show ∀ w2, Below wo.heap.size wo w2 → w2.cell? ⟨b, off + i * 2, none⟩ = _ from fun w2 h2 => (h2.cell (p := ⟨b, off + i * 2, none⟩) hb).trans c0)
        have c1w := hide (show ∀ w2, Below wo.heap.size wo w2 → w2.cell? ⟨b, off + i * 2 + 1, none⟩ = _ from fun w2 h2 => (h2.cell (p := ⟨b, off + i * 2 + 1, none⟩) hb).trans c1)
        clear c0 c1
        have c0 := c0w.out _ hbi
        have c1 := c1w.out _ hbi
        have hbsz : b < wr.heap.size := Nat.lt_of_lt_of_le hb hbi.size
        by_cases hj0 : j = 0
        · have hAh : Hid (∀ W : World, Calls Try.prog 62 #[] W fun e w' => e = .returned (.bool false) ∧ Below W.heap.size W w') ∨ True := .inr trivial
          have hins : Hid (isort (ltP L) (l.take (i + 1)) = Q.take j ++ (x1, x2) :: Q.drop j) := by
            show _ = _
            rw [htk.out, ← hQ.out]
            exact (Behind.ins (ordP L) (by rw [hQ.out]; exact hB.out) (by rw [hQ.out, hml.out]; exact hj) (fun _ h => absurd h (by omega))).symm
          subst hj0
          go_wp2_with fail
          refine wp_region_later (by kernel_rfl) (by kernel_rfl) ?_
          repeat (go_big_quiet_step (first | (go_at_call 62; exact calls_later (hAh.out _)) | exact rfl))
          refine wpQuiet_nil ?_
          rintro _ ⟨e1, rfl⟩
          go_wp2_with (go_at_call 63; refine (hPut.out _ (bthen hbi e1.property) _ rfl).mono ?_; rintro e w1 ⟨v', rfl, hv', hb1⟩)
          go_roundw
          case rel => exact ⟨i + 1, by omega, by go_num, by rw [hins.out]; exact hv', hbel2.out _ _ (bthen hbi e1.property) hb1⟩
          case measure => simp [intOf]; omega
        · obtain ⟨g, c', he, hc1, hc2, hg, d0, d1⟩ := (hv.out.kept hbi).at (j := j - 1) (by rw [hml.out]; omega)
          rw [hml.out] at he
          obtain ⟨rfl, rfl⟩ : Ao = some ⟨g, 0, none⟩ ∧ co = c' := by injection he with he1 he2 he3; exact ⟨he1, he3⟩
          clear he
          have hjp0 : 0 < j := by omega
          have hj1 : ((j : Int) - 1) = ((j - 1 : Nat) : Int) := by omega
          have hjp : Hid (j - 1 < Q.length) := by show _ < _; rw [hml.out]; omega
          have hqm : (Q[j - 1]'hjp.out) ∈ l := by
            have h2 : ∀ z ∈ Q, z ∈ l := by rw [← hQ.out]; exact fun z hz => List.mem_of_mem_take ((isort_mem _ z).1 hz)
            exact h2 _ (List.getElem_mem hjp.out)
          have hqw := hwf _ hqm
          have hAh := fun W => ref06_ahead L (x1, x2) (Q[j - 1]'hjp.out) W hxw hqw.2.1
          clear hqm hqw
          cases hx : ltP L (x1, x2) (Q[j - 1]'hjp.out)
          rotate_left
          · rw [hx] at hAh
            replace hAh := hide hAh
            have hB2 : Hid (Behind (ltP L) (x1, x2) Q (j - 1)) := Behind.step (by rw [show j - 1 + 1 = j by omega]; exact hB.out) hjp.out hx
            generalize (Q[j - 1]'hjp.out) = q at *
            obtain ⟨q1, q2⟩ := q
            simp only at d0 d1
            clear hx
            go_wp2_with fail
            refine wp_region_later (by kernel_rfl) (by kernel_rfl) ?_
            repeat (go_big_quiet_step (first | (go_at_call 62; exact calls_later (hAh.out _)) | exact rfl))
            refine wpQuiet_nil ?_
            rintro _ ⟨e1, rfl⟩
            go_wp2_with fail
            go_roundw
            case rel => exact ⟨j - 1, by omega, by go_num, hB2, bthen hbi e1.property⟩
            case measure => simp [intOf]; omega
          · rw [hx] at hAh
            replace hAh := hide hAh
            have hins : Hid (isort (ltP L) (l.take (i + 1)) = Q.take j ++ (x1, x2) :: Q.drop j) := by
              show _ = _
              rw [htk.out, ← hQ.out]
              refine (Behind.ins (ordP L) (by rw [hQ.out]; exact hB.out) (by rw [hQ.out, hml.out]; exact hj) (fun h _ => ?_)).symm
              have e : (isort (ltP L) (l.take i))[j - 1] = Q[j - 1]'hjp.out := by simp only [hQ.out]
              rw [e]
              exact hx
            generalize (Q[j - 1]'hjp.out) = q at *
            obtain ⟨q1, q2⟩ := q
            simp only at d0 d1
            clear hx
            go_wp2_with fail
            refine wp_region_later (by kernel_rfl) (by kernel_rfl) ?_
            repeat (go_big_quiet_step (first | (go_at_call 62; exact calls_later (hAh.out _)) | exact rfl))
            refine wpQuiet_nil ?_
            rintro _ ⟨e1, rfl⟩
            go_wp2_with (go_at_call 63; refine (hPut.out _ (bthen hbi e1.property) _ rfl).mono ?_; rintro e w1 ⟨v', rfl, hv', hb1⟩)
            go_roundw
            case rel => exact ⟨i + 1, by omega, by go_num, by rw [hins.out]; exact hv', hbel2.out _ _ (bthen hbi e1.property) hb1⟩
            case measure => simp [intOf]; omega
    · obtain rfl : i = n := by omega
      have hres : Hid (isort (ltP L) (l.take i) = isort (ltP L) l) := by show _ = _; rw [List.take_of_length_le (by rw [hn.out]; omega)]
      go_wp2_with fail
      go_ret2
      exact ⟨_, rfl, by rw [← hres.out]; exact hv.out, hbel⟩
end Go.Proofs.Ytbfecpomlkapdaa

/- The walks of layer 6, on: the reference's list by rising numbers. By the prover of this repo. -/
import Derived.Test.YtbfecpomlkapdaaRollU
namespace Go.Proofs.Ytbfecpomlkapdaa
open Go.RowKit
open TwigM RollM

/-- Element j of a list that a call has made. -/
theorem Ndo.at {w : World} {v : Value} {l : List Nd} (h : Ndo w v l) {j : Nat} (hj : j < l.length) :
    ∃ g c, v = .slice (some ⟨g, 0, none⟩) l.length c ∧ l.length ≤ c ∧ c ≤ maxLen ∧ g < w.heap.size ∧ w.cell? ⟨g, j * 2, none⟩ = some (.int .i64 l[j].1) ∧ w.cell? ⟨g, j * 2 + 1, none⟩ = some (.int .i64 l[j].2) := by
  rcases h with ⟨rfl, rfl⟩ | ⟨g, c, rfl, h2, h3, h4⟩
  · simp at hj
  · obtain ⟨b, off, e, hb, c0, c1⟩ := rd_at h4 hj
    injection e with e
    injection e with e1 e2
    subst e1 e2
    rw [Nat.zero_add] at c0 c1
    exact ⟨_, c, rfl, h2, h3, hb, c0, c1⟩
theorem Ndo.len {w : World} {v : Value} {l : List Nd} (h : Ndo w v l) : ∃ A c, v = .slice A l.length c := by
  rcases h with ⟨rfl, rfl⟩ | ⟨g, c, rfl, _⟩
  · exact ⟨none, 0, rfl⟩
  · exact ⟨_, c, rfl⟩
/-- All from place j on stand behind x. -/
def Behind (lt : Nd → Nd → Bool) (x : Nd) (l : List Nd) (j : Nat) : Prop := ∀ i, j ≤ i → ∀ h : i < l.length, lt x l[i] = true
theorem Behind.end_ (lt : Nd → Nd → Bool) (x : Nd) (l : List Nd) : Behind lt x l l.length := fun i h1 h2 => by omega
theorem Behind.step {lt : Nd → Nd → Bool} {x : Nd} {l : List Nd} {j : Nat} (h : Behind lt x l (j + 1)) (hj : j < l.length) (hx : lt x l[j] = true) : Behind lt x l j := fun i h1 h2 => by
  by_cases e : i = j
  · subst e; exact hx
  · exact h i (by omega) h2
theorem Behind.ins {lt : Nd → Nd → Bool} (O : Ord lt) {x : Nd} {k : List Nd} {j : Nat} (h : Behind lt x (isort lt k) j) (hj : j ≤ (isort lt k).length) (h0 : ∀ h : j - 1 < (isort lt k).length, 0 < j → lt x (isort lt k)[j - 1] = false) :
    (isort lt k).take j ++ x :: (isort lt k).drop j = isort lt (k ++ [x]) := by
  rw [isort_snoc]
  exact ins_at O x _ j (isort_srt O k) hj h h0

set_option maxRecDepth 100000 in
set_option maxHeartbeats 4000000 in
theorem ref06_sorted (A : Option Addr) (c : Nat) (l : List Nd) (w : World) (hr : Rd w A l.length 2 (ndc l)) (hl : l.length ≤ 1000000) :
    Calls Try.prog 44 #[.slice A l.length c] w fun e w' => ∃ v, e = .returned v ∧ Ndo w' v (isort ltS l) ∧ Below w.heap.size w w' := by
  obtain ⟨n, hn⟩ : ∃ n, Hid (l.length = n) := ⟨_, rfl⟩
  rw [hn.out] at hl
  have hrn : Hid (Rd w A l.length 2 (ndc l)) := hr
  rw [hn.out]
  clear hr
  go_enter Try.func44, Try.ntmps44
  go_wp2_with fail
  go_loopw [3, 4] (fun v k wr => ∃ (i : Nat), i ≤ n ∧ k = .int .i64 i ∧ Hid (Ndo wr v (isort ltS (l.take i))) ∧ Below w.heap.size w wr) (fun _ k _ => n - (intOf k).toNat)
  case atStart => exact ⟨0, by omega, rfl, .inl ⟨rfl, rfl⟩, Below.refl _ _⟩
  case round =>
    obtain ⟨i, hi, rfl, hv, hbel⟩ := hrel
    by_cases hlt : i < n
    · have hil : i < l.length := by rw [hn.out]; exact hlt
      obtain ⟨b, off, rfl, hb, c0, c1⟩ := rd_at (hrn.out.of_below (Nat.le_refl _) hbel) hil
      have htk : Hid (l.take (i + 1) = l.take i ++ [l[i]]) := List.take_succ_eq_append_getElem hil
      have hml : Hid ((isort ltS (l.take i)).length = i) := by show _ = _; rw [isort_length, List.length_take, hn.out]; omega
      generalize l[i] = x at *
      obtain ⟨x1, x2⟩ := x
      simp only at c0 c1
      obtain ⟨Ao, co, rfl⟩ := hv.out.len
      generalize hQ : isort ltS (l.take i) = Q at *
      replace hQ := hide hQ
      rw [hml.out] at hv ⊢
      obtain ⟨wo, rfl⟩ : ∃ wo : World, wo = wr := ⟨_, rfl⟩
      have hb0 := hbel.size
      go_wp2_with fail
      go_loopw [5] (fun a wi => ∃ (j : Nat), j ≤ i ∧ a = .int .i64 j ∧ Hid (Behind ltS (x1, x2) Q j) ∧ Below wo.heap.size wo wi) (fun a _ => (intOf a).toNat)
      case atStart => exact ⟨i, by omega, rfl, by have := Behind.end_ ltS (x1, x2) Q; rw [hml.out] at this; exact this, Below.refl _ _⟩
      case round =>
        obtain ⟨j, hj, rfl, hB, hbi⟩ := hrel
        have hPut : Hid (∀ w2, Below wo.heap.size wo w2 → ∀ y, y = nv (x1, x2) → Calls Try.prog 63 #[.slice Ao i co, .int .i64 j, y] w2 fun e w' => ∃ v', e = .returned v' ∧ Ndo w' v' (Q.take j ++ (x1, x2) :: Q.drop j) ∧ Below w2.heap.size w2 w') := by
          intro w2 h2 y hy
          subst hy
          exact ref06_put _ j (x1, x2) Q w2 (hv.out.kept h2) (by rw [hml.out]; exact hj) (by rw [hml.out]; omega)
        have hbel2 : Hid (∀ w2 w1 : World, Below wo.heap.size wo w2 → Below w2.heap.size w2 w1 → Below w.heap.size w w1) := fun w2 w1 h2 h1 => hbel.trans ((h2.trans (h1.mono h2.size)).mono hb0)
        have c0w := hide (show ∀ w2, Below wo.heap.size wo w2 → w2.cell? ⟨b, off + i * 2, none⟩ = _ from fun w2 h2 => (h2.cell (p := ⟨b, off + i * 2, none⟩) hb).trans c0)
        have c1w := hide (show ∀ w2, Below wo.heap.size wo w2 → w2.cell? ⟨b, off + i * 2 + 1, none⟩ = _ from fun w2 h2 => (h2.cell (p := ⟨b, off + i * 2 + 1, none⟩) hb).trans c1)
        clear c0 c1
        have c0 := c0w.out _ hbi
        have c1 := c1w.out _ hbi
        have hbsz : b < wr.heap.size := Nat.lt_of_lt_of_le hb hbi.size
        by_cases hj0 : j = 0
        · have hins : Hid (isort ltS (l.take (i + 1)) = Q.take j ++ (x1, x2) :: Q.drop j) := by
            show _ = _
            rw [htk.out, ← hQ.out]
            exact (Behind.ins ordS (by rw [hQ.out]; exact hB.out) (by rw [hQ.out, hml.out]; exact hj) (fun _ h => absurd h (by omega))).symm
          subst hj0
          go_wp2_with fail
          go_quiet (fail)
          go_wp2_with (go_at_call 63; refine (hPut.out _ (below_drewN hbi _) _ rfl).mono ?_; rintro e w1 ⟨v', rfl, hv', hb1⟩)
          go_roundw
          case rel => exact ⟨i + 1, by omega, by go_num, by rw [hins.out]; exact hv', hbel2.out _ _ (below_drewN hbi _) hb1⟩
          case measure => simp [intOf]; omega
        · obtain ⟨g, c', he, hc1, hc2, hg, d0, d1⟩ := (hv.out.kept hbi).at (j := j - 1) (by rw [hml.out]; omega)
          rw [hml.out] at he
          obtain ⟨rfl, rfl⟩ : Ao = some ⟨g, 0, none⟩ ∧ co = c' := by injection he with he1 he2 he3; exact ⟨he1, he3⟩
          clear he
          have hjp0 : 0 < j := by omega
          have hj1 : ((j : Int) - 1) = ((j - 1 : Nat) : Int) := by omega
          have hjp : Hid (j - 1 < Q.length) := by show _ < _; rw [hml.out]; omega
          by_cases hx : x1 < (Q[j - 1]'hjp.out).1
          · have hB2 : Hid (Behind ltS (x1, x2) Q (j - 1)) := Behind.step (by rw [show j - 1 + 1 = j by omega]; exact hB.out) hjp.out (by simpa [ltS] using hx)
            generalize (Q[j - 1]'hjp.out) = q at *
            obtain ⟨q1, q2⟩ := q
            simp only at d0 d1 hx
            go_wp2_with fail
            go_quiet (fail)
            go_wp2_with fail
            go_roundw
            case rel => exact ⟨j - 1, by omega, by go_num, hB2, below_drewN hbi _⟩
            case measure => simp [intOf]; omega
          · have hins : Hid (isort ltS (l.take (i + 1)) = Q.take j ++ (x1, x2) :: Q.drop j) := by
              show _ = _
              rw [htk.out, ← hQ.out]
              refine (Behind.ins ordS (by rw [hQ.out]; exact hB.out) (by rw [hQ.out, hml.out]; exact hj) (fun h _ => ?_)).symm
              have e : (isort ltS (l.take i))[j - 1] = Q[j - 1]'hjp.out := by simp only [hQ.out]
              rw [e]
              simpa [ltS] using hx
            generalize (Q[j - 1]'hjp.out) = q at *
            obtain ⟨q1, q2⟩ := q
            simp only at d0 d1 hx
            go_wp2_with fail
            go_quiet (fail)
            go_wp2_with (go_at_call 63; refine (hPut.out _ (below_drewN hbi _) _ rfl).mono ?_; rintro e w1 ⟨v', rfl, hv', hb1⟩)
            go_roundw
            case rel => exact ⟨i + 1, by omega, by go_num, by rw [hins.out]; exact hv', hbel2.out _ _ (below_drewN hbi _) hb1⟩
            case measure => simp [intOf]; omega
    · obtain rfl : i = n := by omega
      have hres : Hid (isort ltS (l.take i) = isort ltS l) := by show _ = _; rw [List.take_of_length_le (by rw [hn.out]; omega)]
      go_wp2_with fail
      go_ret
      exact ⟨_, rfl, by rw [← hres.out]; exact hv.out, hbel⟩
end Go.Proofs.Ytbfecpomlkapdaa

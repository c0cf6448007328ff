/- The walks of layer 29: whether a letter is right, and the reference's. By the prover of this repo. -/
import Derived.Test.YtclndbaafibaiaaCrewA
namespace Go.Proofs.Ytclndbaafibaiaa
open Go.RowKit

/-- A letter: its epoch, its sensor, whose readings, its body. -/
structure Let where
  ep : Int
  fr : Int
  co : Int
  body : ByteArray
/-- Its parts in their types' bounds. -/
structure Let.Wf (x : Let) : Prop where
  e0 : -9223372036854775808 ≤ x.ep
  e1 : x.ep ≤ 9223372036854775807
  f0 : -9223372036854775808 ≤ x.fr
  f1 : x.fr ≤ 9223372036854775807
  c0 : 0 ≤ x.co
  c1 : x.co < 18446744073709551616
  b1 : x.body.size ≤ 9223372036854775807
abbrev lv (x : Let) : Value := .agg #[.int .i64 x.ep, .int .i64 x.fr, .int .u64 x.co, .string x.body]
/-- Whether it is right. -/
def rightF (x : Let) : Bool := decide (0 ≤ x.ep) && (hasF x.co x.fr && (decide (x.co < 281474976710656) && decide (x.body.size ≤ 1048576)))

set_option maxRecDepth 100000 in
theorem letter_right (x : Let) (h : x.Wf) (w : World) : Calls Try.prog 45 #[lv x] w fun e w' => e = .returned (.bool (rightF x)) ∧ Below w.heap.size w w' := by
  obtain ⟨ep, fr, co, body⟩ := x
  obtain ⟨h1, h2, h3, h4, h5, h6, h7⟩ := h
  simp only at h1 h2 h3 h4 h5 h6 h7
  have hH := fun W => crew_has co fr W h5 h6
  have hR := fun W => crew_right co W
  unfold rightF
  simp only
  generalize hasF co fr = A at hH
  obtain ⟨B, hB⟩ : ∃ B, decide (co < 281474976710656) = B := ⟨_, rfl⟩
  rw [hB] at hR ⊢
  replace hH := hide hH
  replace hR := hide hR
  clear hB
  by_cases e0 : 0 ≤ ep
  · cases A
    · go_enter Try.func45, Try.ntmps45
      go_wp2_with (go_at_call 52; refine (hH.out _).mono ?_; rintro e w1 ⟨rfl, rfl⟩)
      go_ret
      exact ⟨by simp [e0], balloc0 _ _⟩
    · cases B
      · go_enter Try.func45, Try.ntmps45
        go_wp2_with (first | (go_at_call 52; refine (hH.out _).mono ?_; rintro e w1 ⟨rfl, rfl⟩) | (go_at_call 49; refine (hR.out _).mono ?_; rintro e w1 ⟨rfl, rfl⟩))
        go_ret
        exact ⟨by simp [e0], balloc0 _ _⟩
      · go_enter Try.func45, Try.ntmps45
        go_wp2_with (first | (go_at_call 52; refine (hH.out _).mono ?_; rintro e w1 ⟨rfl, rfl⟩) | (go_at_call 49; refine (hR.out _).mono ?_; rintro e w1 ⟨rfl, rfl⟩))
        go_ret
        refine ⟨ret_congr (bool_congr ?_), balloc0 _ _⟩
        simp [e0]
        try omega
  · go_enter Try.func45, Try.ntmps45
    go_wp2_with fail
    go_ret
    exact ⟨by simp; intro h; omega, balloc0 _ _⟩

theorem has_is {s i : Int} (h : ¬ (0 ≤ i ∧ i < 48)) : hasF s i = false := decide_eq_false fun k => h ⟨k.1, k.2.1⟩

set_option maxRecDepth 100000 in
theorem ref29_right (x : Let) (h : x.Wf) (w : World) : Calls Try.prog 46 #[lv x] w fun e w' => e = .returned (.bool (rightF x)) ∧ Below w.heap.size w w' := by
  obtain ⟨ep, fr, co, body⟩ := x
  obtain ⟨h1, h2, h3, h4, h5, h6, h7⟩ := h
  simp only at h1 h2 h3 h4 h5 h6 h7
  have hI := fun W => ref27_is fr W
  have hH := fun W => ref27_has co fr W h5 h6
  have hR := fun W => ref27_right co W
  have hn := hide (fun h => has_is (s := co) (i := fr) h)
  unfold rightF
  simp only
  generalize hasF co fr = A at hH hn
  obtain ⟨B, hB⟩ : ∃ B, decide (co < 281474976710656) = B := ⟨_, rfl⟩
  rw [hB] at hR ⊢
  clear hB
  by_cases e0 : 0 ≤ ep
  · by_cases hi : 0 ≤ fr ∧ fr < 48
    · rw [decide_eq_true hi] at hI
      replace hI := hide hI
      replace hH := hide hH
      replace hR := hide hR
      clear hn
      cases B
      · go_enter Try.func46, Try.ntmps46
        go_wp2_with (first | (go_at_call 53; refine (hI.out _).mono ?_; rintro e w1 ⟨rfl, rfl⟩) | (go_at_call 54; refine (hR.out _).mono ?_; rintro e w1 ⟨rfl, rfl⟩))
        go_ret
        exact ⟨by simp [e0], balloc0 _ _⟩
      · cases A
        · go_enter Try.func46, Try.ntmps46
          go_wp2_with (first | (go_at_call 53; refine (hI.out _).mono ?_; rintro e w1 ⟨rfl, rfl⟩) | (go_at_call 54; refine (hR.out _).mono ?_; rintro e w1 ⟨rfl, rfl⟩) | (go_at_call 55; refine (hH.out _).mono ?_; rintro e w1 ⟨rfl, rfl⟩))
          go_ret
          exact ⟨by simp [e0], balloc0 _ _⟩
        · go_enter Try.func46, Try.ntmps46
          go_wp2_with (first | (go_at_call 53; refine (hI.out _).mono ?_; rintro e w1 ⟨rfl, rfl⟩) | (go_at_call 54; refine (hR.out _).mono ?_; rintro e w1 ⟨rfl, rfl⟩) | (go_at_call 55; refine (hH.out _).mono ?_; rintro e w1 ⟨rfl, rfl⟩))
          go_ret
          refine ⟨ret_congr (bool_congr ?_), balloc0 _ _⟩
          simp [e0]
          try omega
    · rw [decide_eq_false hi] at hI
      obtain rfl := hn.out hi
      replace hI := hide hI
      clear hH hR hn hi
      go_enter Try.func46, Try.ntmps46
      go_wp2_with (go_at_call 53; refine (hI.out _).mono ?_; rintro e w1 ⟨rfl, rfl⟩)
      go_ret
      exact ⟨by simp, balloc0 _ _⟩
  · clear hI hH hR hn
    go_enter Try.func46, Try.ntmps46
    go_wp2_with fail
    go_ret
    exact ⟨by simp; intro h; omega, balloc0 _ _⟩
end Go.Proofs.Ytclndbaafibaiaa

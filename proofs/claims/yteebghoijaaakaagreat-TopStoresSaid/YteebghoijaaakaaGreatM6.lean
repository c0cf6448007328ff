/- Part 6 of the proof: texts joined by this repo's tools/merge2.py (TwigW). By the prover of this repo. -/
import Derived.Test.YteebghoijaaakaaGreatM1
import Derived.Test.YteebghoijaaakaaGreatM5
set_option linter.unusedVariables false
set_option linter.unusedSimpArgs false
/- The walks of layer 2: reckon.Log, and each function of the package twig, once, by what it computes. By the prover of this repo. -/
namespace Go.Proofs.YteebghoijaaakaaGreat
open Go.RowKit
open TwigM

/-- Two results, a number and whether it is one. -/
abbrev nb (p : Int × Bool) : Value := .tuple #[.int .i64 p.1, .bool p.2]
abbrev nnb (p : Int × Int × Bool) : Value := .tuple #[.int .i64 p.1, .int .i64 p.2.1, .bool p.2.2]

theorem len64 (n : Int) (w : World) (h : 1 ≤ n) (h1 : n ≤ 9223372036854775807) :
    Calls Tryz.prog 171 #[.int .u64 n] w fun e w' => e = .returned (.int .i64 (lg n + 1)) ∧ w = w' :=
  (Tryz.bits_Len64 n w (by omega) (by omega)).mono fun e w' ⟨he, hw⟩ => ⟨by rw [he, bitLen_lg h h1], hw.symm⟩

theorem log_yes (n : Int) (w : World) (h : 1 ≤ n) (h1 : n ≤ 9223372036854775807) :
    Calls Tryz.prog 132 #[.int .i64 n] w fun e w' => e = .returned (.tuple #[.int .i64 (lg n), .bool true]) ∧ w = w' := by
  have hd0 := lg_nonneg n
  have hd1 := lg_le62 h h1
  go_enter Tryz.func132, Tryz.ntmps132
  go_wp2_with (go_at_call 171; refine (len64 n _ h h1).mono ?_; rintro e w' ⟨rfl, rfl⟩)
  go_ret2
  exact ⟨ret2 (int_congr (by omega)) rfl, rfl⟩
theorem log_no (n : Int) (w : World) (h : n < 1) :
    Calls Tryz.prog 132 #[.int .i64 n] w fun e w' => e = .returned (.tuple #[.int .i64 0, .bool false]) ∧ w = w' := by
  go_enter Tryz.func132, Tryz.ntmps132
  go_wp2_with fail
  go_ret2
  exact ⟨rfl, rfl⟩

theorem depth_yes (n : Int) (w : World) (h : 1 ≤ n) (h1 : n ≤ 9223372036854775807) :
    Calls Tryz.prog 89 #[.int .i64 n] w fun e w' => e = .returned (.tuple #[.int .i64 (lg n), .bool true]) ∧ w = w' := by
  go_enter Tryz.func89, Tryz.ntmps89
  go_wp2_with (go_at_call 132; refine (log_yes n _ h h1).mono ?_; rintro e w' ⟨rfl, rfl⟩)
  go_ret2
  exact ⟨rfl, rfl⟩
theorem depth_no (n : Int) (w : World) (h : n < 1) :
    Calls Tryz.prog 89 #[.int .i64 n] w fun e w' => e = .returned (.tuple #[.int .i64 0, .bool false]) ∧ w = w' := by
  go_enter Tryz.func89, Tryz.ntmps89
  go_wp2_with (go_at_call 132; refine (log_no n _ h).mono ?_; rintro e w' ⟨rfl, rfl⟩)
  go_ret2
  exact ⟨rfl, rfl⟩
theorem depth_c (n : Int) (w : World) (h1 : n ≤ 9223372036854775807) :
    Calls Tryz.prog 89 #[.int .i64 n] w fun e w' => e = .returned (nb (depthF n)) ∧ w = w' := by
  unfold depthF
  by_cases h : n < 1
  · rw [if_pos h]; exact depth_no n w h
  · rw [if_neg h]; exact depth_yes n w (by omega) h1

theorem right_yes (l id : Int) (w : World) (hl : 1 ≤ l) (hl2 : l ≤ 48) (h0 : 1 ≤ id) (h1 : id < 2 * pw l) :
    Calls Tryz.prog 88 #[.int .i64 l, .int .i64 id] w fun e w' => e = .returned (.bool true) ∧ w = w' := by
  have hp : (2 : Int) ^ l.toNat = pw l := rfl
  have hp1 := pw_pos l
  have hp2 := pw_le48 hl2
  go_enter Tryz.func88, Tryz.ntmps88
  go_wp2
  go_ret
  exact ⟨rfl, rfl⟩
theorem right_no (l id : Int) (w : World) (h : ¬ (1 ≤ l ∧ l ≤ 48 ∧ 1 ≤ id ∧ id < 2 * pw l)) :
    Calls Tryz.prog 88 #[.int .i64 l, .int .i64 id] w fun e w' => e = .returned (.bool false) ∧ w = w' := by
  have hp : (2 : Int) ^ l.toNat = pw l := rfl
  have hp1 := pw_pos l
  by_cases hl : 1 ≤ l
  · by_cases hl2 : l ≤ 48
    · have hp2 := pw_le48 hl2
      by_cases h0 : 1 ≤ id
      · have h1 : 2 * pw l ≤ id := by omega
        clear h
        go_enter Tryz.func88, Tryz.ntmps88
        go_wp2
        go_ret
        exact ⟨ret_congr (bool_false (by omega)), rfl⟩
      · clear h
        go_enter Tryz.func88, Tryz.ntmps88
        go_wp2
        go_ret
        exact ⟨rfl, rfl⟩
    · clear h hp
      go_enter Tryz.func88, Tryz.ntmps88
      go_wp2
      go_ret
      exact ⟨rfl, rfl⟩
  · clear h hp
    go_enter Tryz.func88, Tryz.ntmps88
    go_wp2
    go_ret
    exact ⟨rfl, rfl⟩
theorem right_c (l id : Int) (w : World) :
    Calls Tryz.prog 88 #[.int .i64 l, .int .i64 id] w fun e w' => e = .returned (.bool (rightB l id)) ∧ w = w' := by
  by_cases h : 1 ≤ l ∧ l ≤ 48 ∧ 1 ≤ id ∧ id < 2 * pw l
  · rw [show rightB l id = true from right_iff.2 h]; exact right_yes l id w h.1 h.2.1 h.2.2.1 h.2.2.2
  · rw [show rightB l id = false from by simpa using mt right_iff.1 h]; exact right_no l id w h

theorem leaf_c (l x : Int) (w : World) (hx : x ≤ 9223372036854775807) :
    Calls Tryz.prog 39 #[.int .i64 l, .int .i64 x] w fun e w' => e = .returned (nb (leafF l x)) ∧ w = w' := by
  have hp : (2 : Int) ^ l.toNat = pw l := rfl
  have hp1 := pw_pos l
  unfold leafF
  by_cases hl : 1 ≤ l
  · by_cases hl2 : l ≤ 48
    · have hp2 := pw_le48 hl2
      by_cases h0 : 0 ≤ x
      · by_cases h1 : x < pw l
        · rw [if_pos ⟨hl, hl2, h0, h1⟩]
          go_enter Tryz.func39, Tryz.ntmps39
          go_wp2
          go_ret2
          refine ⟨ret2 (int_congr ?_) rfl, rfl⟩
          have h2 := or_pow l.toNat x.toNat (by omega) (by have := pw_nat l; omega)
          rw [← pw_nat, show ((x.toNat : Nat) : Int) = x by omega] at h2
          rw [h2]
          have := pw_nat l
          omega
        · rw [if_neg (by omega)]
          go_enter Tryz.func39, Tryz.ntmps39
          go_wp2
          go_ret2
          exact ⟨rfl, rfl⟩
      · rw [if_neg (by omega)]
        clear hp
        go_enter Tryz.func39, Tryz.ntmps39
        go_wp2
        go_ret2
        exact ⟨rfl, rfl⟩
    · rw [if_neg (by omega)]
      clear hp
      go_enter Tryz.func39, Tryz.ntmps39
      go_wp2
      go_ret2
      exact ⟨rfl, rfl⟩
  · rw [if_neg (by omega)]
    clear hp
    go_enter Tryz.func39, Tryz.ntmps39
    go_wp2
    go_ret2
    exact ⟨rfl, rfl⟩

theorem ends_yes (l id : Int) (w : World) (hl : 1 ≤ l) (hl2 : l ≤ 48) (h0 : 1 ≤ id) (h1 : id < 2 * pw l) :
    Calls Tryz.prog 48 #[.int .i64 l, .int .i64 id] w fun e w' => e = .returned (.tuple #[.int .i64 (loF l id), .int .i64 (loF l id + pw (l - lg id) - 1), .bool true]) ∧ ∃ n, w' = w.drewN n := by
  have hp2 := pw_le48 hl2
  have hd0 := lg_nonneg id
  have hd1 := (lg_le h0 (by omega)).2 h1
  have hs := lg_spec h0
  have hq : loF l id = (id - pw (lg id)) * pw (l - lg id) := rfl
  have hq0 : 0 ≤ loF l id := by rw [hq]; exact Int.mul_nonneg (by omega) (by have := pw_pos (l - lg id); omega)
  have hpr : pw (lg id) * pw (l - lg id) = pw l := by rw [← pw_add hd0 (by omega)]; congr 1; omega
  have hq1 : loF l id + pw (l - lg id) ≤ pw l := by
    have e : (id - pw (lg id)) * pw (l - lg id) + pw (l - lg id) = (id - pw (lg id) + 1) * pw (l - lg id) := by rw [Int.add_mul, Int.one_mul]
    rw [hq, ← hpr, e]
    exact Int.mul_le_mul_of_nonneg_right (by omega) (by have := pw_pos (l - lg id); omega)
  have hb1 := pw_pos (l - lg id)
  have hb2 := pw_pos (lg id)
  have hlt : id ≤ 9223372036854775807 := by omega
  clear hpr
  generalize hd : lg id = d at *
  have hDe := hide hd
  clear hd
  generalize hQ : loF l id = q at *
  have hQ := hide hQ
  have hpd : (2 : Int) ^ d.toNat = pw d := rfl
  have hpb : (2 : Int) ^ (l - d).toNat = pw (l - d) := rfl
  go_enter Tryz.func48, Tryz.ntmps48
  go_wp2_with (first
    | (go_at_call 88; refine (right_yes l id _ hl hl2 h0 h1).mono ?_; rintro e w' ⟨rfl, rfl⟩)
    | (go_at_call 89; refine (depth_yes id _ h0 hlt).mono ?_; rw [hDe.out]; rintro e w' ⟨rfl, rfl⟩))
  go_wp2
  go_quiet (fail)
  go_wp2
  go_ret3
  exact ⟨ret3 (int_congr (by rw [← hq])) (int_congr (by rw [← hq])) rfl, nq, rfl⟩
theorem ends_no (l id : Int) (w : World) (h : ¬ (1 ≤ l ∧ l ≤ 48 ∧ 1 ≤ id ∧ id < 2 * pw l)) :
    Calls Tryz.prog 48 #[.int .i64 l, .int .i64 id] w fun e w' => e = .returned (.tuple #[.int .i64 0, .int .i64 0, .bool false]) ∧ w = w' := by
  have h := hide h
  go_enter Tryz.func48, Tryz.ntmps48
  go_wp2_with (go_at_call 88; refine (right_no l id _ h.out).mono ?_; rintro e w' ⟨rfl, rfl⟩)
  go_ret3
  exact ⟨rfl, rfl⟩
theorem ends_c (l id : Int) (w : World) :
    Calls Tryz.prog 48 #[.int .i64 l, .int .i64 id] w fun e w' => e = .returned (nnb (endsF l id)) ∧ ∃ n, w' = w.drewN n := by
  unfold endsF
  by_cases h : 1 ≤ l ∧ l ≤ 48 ∧ 1 ≤ id ∧ id < 2 * pw l
  · rw [if_pos (right_iff.2 h)]; exact ends_yes l id w h.1 h.2.1 h.2.2.1 h.2.2.2
  · rw [if_neg (fun k => h (right_iff.1 k))]
    exact (ends_no l id w h).mono fun e w' ⟨he, hw⟩ => ⟨he, 0, hw ▸ rfl⟩

theorem kids_c (l id : Int) (w : World) :
    Calls Tryz.prog 150 #[.int .i64 l, .int .i64 id] w fun e w' => e = .returned (nnb (kidsF l id)) ∧ w = w' := by
  have hp : (2 : Int) ^ l.toNat = pw l := rfl
  have hp1 := pw_pos l
  unfold kidsF
  by_cases hr : 1 ≤ l ∧ l ≤ 48 ∧ 1 ≤ id ∧ id < 2 * pw l
  · have hR := right_iff.2 hr
    obtain ⟨hl, hl2, h0, h1⟩ := hr
    have hp2 := pw_le48 hl2
    by_cases h2 : id < pw l
    · rw [if_pos ⟨hR, h2⟩]
      clear hR
      go_enter Tryz.func150, Tryz.ntmps150
      go_wp2_with (go_at_call 88; refine (right_yes l id _ hl hl2 h0 h1).mono ?_; rintro e w' ⟨rfl, rfl⟩)
      go_ret3
      exact ⟨rfl, rfl⟩
    · rw [if_neg (fun k => h2 k.2)]
      clear hR
      go_enter Tryz.func150, Tryz.ntmps150
      go_wp2_with (go_at_call 88; refine (right_yes l id _ hl hl2 h0 h1).mono ?_; rintro e w' ⟨rfl, rfl⟩)
      go_ret3
      exact ⟨rfl, rfl⟩
  · rw [if_neg (fun k => hr (right_iff.1 k.1))]
    have hr := hide hr
    clear hp hp1
    go_enter Tryz.func150, Tryz.ntmps150
    go_wp2_with (go_at_call 88; refine (right_no l id _ hr.out).mono ?_; rintro e w' ⟨rfl, rfl⟩)
    go_ret3
    exact ⟨rfl, rfl⟩
end Go.Proofs.YteebghoijaaakaaGreat

/- The walks of layer 2: reckon.Log, and each function of the package twig, once, by what it computes. By the prover of this repo. -/
import Derived.Test.YtbfecpomlkapdaaBits
import Derived.Test.YtbfecpomlkapdaaShelf
import Derived.Test.YtbfecpomlkapdaaTwigM
namespace Go.Proofs.Ytbfecpomlkapdaa
open Go.RowKit
open TwigM

/-- Two results, a number and whether it is one. -/
abbrev nb (p : Int × Bool) : Value := .tuple #[.int .i64 p.1, .bool p.2]
abbrev nnb (p : Int × Int × Bool) : Value := .tuple #[.int .i64 p.1, .int .i64 p.2.1, .bool p.2.2]

theorem len64 (n : Int) (w : World) (h : 1 ≤ n) (h1 : n ≤ 9223372036854775807) :
    Calls Try.prog 70 #[.int .u64 n] w fun e w' => e = .returned (.int .i64 (lg n + 1)) ∧ w = w' :=
  (Try.bits_Len64 n w (by omega) (by omega)).mono fun e w' ⟨he, hw⟩ => ⟨by rw [he, bitLen_lg h h1], hw.symm⟩

theorem log_yes (n : Int) (w : World) (h : 1 ≤ n) (h1 : n ≤ 9223372036854775807) :
    Calls Try.prog 59 #[.int .i64 n] w fun e w' => e = .returned (.tuple #[.int .i64 (lg n), .bool true]) ∧ w = w' := by
  have hd0 := lg_nonneg n
  have hd1 := lg_le62 h h1
  go_enter Try.func59, Try.ntmps59
  go_wp2_with (go_at_call 70; refine (len64 n _ h h1).mono ?_; rintro e w' ⟨rfl, rfl⟩)
  go_ret2
  exact ⟨ret2 (int_congr (by omega)) rfl, rfl⟩
theorem log_no (n : Int) (w : World) (h : n < 1) :
    Calls Try.prog 59 #[.int .i64 n] w fun e w' => e = .returned (.tuple #[.int .i64 0, .bool false]) ∧ w = w' := by
  go_enter Try.func59, Try.ntmps59
  go_wp2_with fail
  go_ret2
  exact ⟨rfl, rfl⟩

theorem depth_yes (n : Int) (w : World) (h : 1 ≤ n) (h1 : n ≤ 9223372036854775807) :
    Calls Try.prog 23 #[.int .i64 n] w fun e w' => e = .returned (.tuple #[.int .i64 (lg n), .bool true]) ∧ w = w' := by
  go_enter Try.func23, Try.ntmps23
  go_wp2_with (go_at_call 59; refine (log_yes n _ h h1).mono ?_; rintro e w' ⟨rfl, rfl⟩)
  go_ret2
  exact ⟨rfl, rfl⟩
theorem depth_no (n : Int) (w : World) (h : n < 1) :
    Calls Try.prog 23 #[.int .i64 n] w fun e w' => e = .returned (.tuple #[.int .i64 0, .bool false]) ∧ w = w' := by
  go_enter Try.func23, Try.ntmps23
  go_wp2_with (go_at_call 59; refine (log_no n _ h).mono ?_; rintro e w' ⟨rfl, rfl⟩)
  go_ret2
  exact ⟨rfl, rfl⟩
theorem depth_c (n : Int) (w : World) (h1 : n ≤ 9223372036854775807) :
    Calls Try.prog 23 #[.int .i64 n] w fun e w' => e = .returned (nb (depthF n)) ∧ w = w' := by
  unfold depthF
  by_cases h : n < 1
  · rw [if_pos h]; exact depth_no n w h
  · rw [if_neg h]; exact depth_yes n w (by omega) h1

theorem right_yes (l id : Int) (w : World) (hl : 1 ≤ l) (hl2 : l ≤ 48) (h0 : 1 ≤ id) (h1 : id < 2 * pw l) :
    Calls Try.prog 27 #[.int .i64 l, .int .i64 id] w fun e w' => e = .returned (.bool true) ∧ w = w' := by
  have hp : (2 : Int) ^ l.toNat = pw l := rfl
  have hp1 := pw_pos l
  have hp2 := pw_le48 hl2
  go_enter Try.func27, Try.ntmps27
  go_wp2
  go_ret
  exact ⟨rfl, rfl⟩
theorem right_no (l id : Int) (w : World) (h : ¬ (1 ≤ l ∧ l ≤ 48 ∧ 1 ≤ id ∧ id < 2 * pw l)) :
    Calls Try.prog 27 #[.int .i64 l, .int .i64 id] w fun e w' => e = .returned (.bool false) ∧ w = w' := by
  have hp : (2 : Int) ^ l.toNat = pw l := rfl
  have hp1 := pw_pos l
  by_cases hl : 1 ≤ l
  · by_cases hl2 : l ≤ 48
    · have hp2 := pw_le48 hl2
      by_cases h0 : 1 ≤ id
      · have h1 : 2 * pw l ≤ id := by omega
        clear h
        go_enter Try.func27, Try.ntmps27
        go_wp2
        go_ret
        exact ⟨ret_congr (bool_false (by omega)), rfl⟩
      · clear h
        go_enter Try.func27, Try.ntmps27
        go_wp2
        go_ret
        exact ⟨rfl, rfl⟩
    · clear h hp
      go_enter Try.func27, Try.ntmps27
      go_wp2
      go_ret
      exact ⟨rfl, rfl⟩
  · clear h hp
    go_enter Try.func27, Try.ntmps27
    go_wp2
    go_ret
    exact ⟨rfl, rfl⟩
theorem right_c (l id : Int) (w : World) :
    Calls Try.prog 27 #[.int .i64 l, .int .i64 id] w fun e w' => e = .returned (.bool (rightB l id)) ∧ w = w' := by
  by_cases h : 1 ≤ l ∧ l ≤ 48 ∧ 1 ≤ id ∧ id < 2 * pw l
  · rw [show rightB l id = true from right_iff.2 h]; exact right_yes l id w h.1 h.2.1 h.2.2.1 h.2.2.2
  · rw [show rightB l id = false from by simpa using mt right_iff.1 h]; exact right_no l id w h

theorem leaf_c (l x : Int) (w : World) (hx : x ≤ 9223372036854775807) :
    Calls Try.prog 19 #[.int .i64 l, .int .i64 x] w fun e w' => e = .returned (nb (leafF l x)) ∧ w = w' := by
  have hp : (2 : Int) ^ l.toNat = pw l := rfl
  have hp1 := pw_pos l
  unfold leafF
  by_cases hl : 1 ≤ l
  · by_cases hl2 : l ≤ 48
    · have hp2 := pw_le48 hl2
      by_cases h0 : 0 ≤ x
      · by_cases h1 : x < pw l
        · rw [if_pos ⟨hl, hl2, h0, h1⟩]
          go_enter Try.func19, Try.ntmps19
          go_wp2
          go_ret2
          refine ⟨ret2 (int_congr ?_) rfl, rfl⟩
          have h2 := or_pow l.toNat x.toNat (by omega) (by have := pw_nat l; omega)
          rw [← pw_nat, show ((x.toNat : Nat) : Int) = x by omega] at h2
          rw [h2]
          have := pw_nat l
          omega
        · rw [if_neg (by omega)]
          go_enter Try.func19, Try.ntmps19
          go_wp2
          go_ret2
          exact ⟨rfl, rfl⟩
      · rw [if_neg (by omega)]
        clear hp
        go_enter Try.func19, Try.ntmps19
        go_wp2
        go_ret2
        exact ⟨rfl, rfl⟩
    · rw [if_neg (by omega)]
      clear hp
      go_enter Try.func19, Try.ntmps19
      go_wp2
      go_ret2
      exact ⟨rfl, rfl⟩
  · rw [if_neg (by omega)]
    clear hp
    go_enter Try.func19, Try.ntmps19
    go_wp2
    go_ret2
    exact ⟨rfl, rfl⟩

theorem value_c (l id : Int) (w : World) (hx : id ≤ 9223372036854775807) :
    Calls Try.prog 21 #[.int .i64 l, .int .i64 id] w fun e w' => e = .returned (nb (valueF l id)) ∧ w = w' := by
  have hp : (2 : Int) ^ l.toNat = pw l := rfl
  have hp1 := pw_pos l
  unfold valueF
  by_cases hr : 1 ≤ l ∧ l ≤ 48 ∧ 1 ≤ id ∧ id < 2 * pw l
  · have hR := right_iff.2 hr
    obtain ⟨hl, hl2, h0, h1⟩ := hr
    have hp2 := pw_le48 hl2
    by_cases h2 : pw l ≤ id
    · rw [if_pos ⟨hR, h2⟩]
      clear hR
      go_enter Try.func21, Try.ntmps21
      go_wp2_with (go_at_call 27; refine (right_yes l id _ hl hl2 h0 h1).mono ?_; rintro e w' ⟨rfl, rfl⟩)
      go_ret2
      exact ⟨rfl, rfl⟩
    · rw [if_neg (fun k => h2 k.2)]
      clear hR
      go_enter Try.func21, Try.ntmps21
      go_wp2_with (go_at_call 27; refine (right_yes l id _ hl hl2 h0 h1).mono ?_; rintro e w' ⟨rfl, rfl⟩)
      go_ret2
      exact ⟨rfl, rfl⟩
  · rw [if_neg (fun k => hr (right_iff.1 k.1))]
    have hr := hide hr
    clear hp hp1
    go_enter Try.func21, Try.ntmps21
    go_wp2_with (go_at_call 27; refine (right_no l id _ hr.out).mono ?_; rintro e w' ⟨rfl, rfl⟩)
    go_ret2
    exact ⟨rfl, rfl⟩

theorem ends_yes (l id : Int) (w : World) (hl : 1 ≤ l) (hl2 : l ≤ 48) (h0 : 1 ≤ id) (h1 : id < 2 * pw l) :
    Calls Try.prog 25 #[.int .i64 l, .int .i64 id] w fun e w' => e = .returned (.tuple #[.int .i64 (loF l id), .int .i64 (loF l id + pw (l - lg id) - 1), .bool true]) ∧ ∃ n, w' = w.drewN n := by
  have hp2 := pw_le48 hl2
  have hd0 := lg_nonneg id
  have hd1 := (lg_le h0 (by omega)).2 h1
  have hs := lg_spec h0
  have hq : loF l id = (id - pw (lg id)) * pw (l - lg id) := rfl
  have hq0 : 0 ≤ loF l id := by rw [hq]; exact Int.mul_nonneg (by omega) (by have := pw_pos (l - lg id); omega)
  have hpr : pw (lg id) * pw (l - lg id) = pw l := by rw [← pw_add hd0 (by omega)]; congr 1; omega
  have hq1 : loF l id + pw (l - lg id) ≤ pw l := by
    have e : (id - pw (lg id)) * pw (l - lg id) + pw (l - lg id) = (id - pw (lg id) + 1) * pw (l - lg id) := by rw [Int.add_mul, Int.one_mul]
    rw [hq, ← hpr, e]
    exact Int.mul_le_mul_of_nonneg_right (by omega) (by have := pw_pos (l - lg id); omega)
  have hb1 := pw_pos (l - lg id)
  have hb2 := pw_pos (lg id)
  have hlt : id ≤ 9223372036854775807 := by omega
  clear hpr
  generalize hd : lg id = d at *
  have hDe := hide hd
  clear hd
  generalize hQ : loF l id = q at *
  have hQ := hide hQ
  have hpd : (2 : Int) ^ d.toNat = pw d := rfl
  have hpb : (2 : Int) ^ (l - d).toNat = pw (l - d) := rfl
  go_enter Try.func25, Try.ntmps25
  go_wp2_with (first
    | (go_at_call 27; refine (right_yes l id _ hl hl2 h0 h1).mono ?_; rintro e w' ⟨rfl, rfl⟩)
    | (go_at_call 23; refine (depth_yes id _ h0 hlt).mono ?_; rw [hDe.out]; rintro e w' ⟨rfl, rfl⟩))
  go_wp2
  go_quiet (fail)
  go_wp2
  go_ret3
  exact ⟨ret3 (int_congr (by rw [← hq])) (int_congr (by rw [← hq])) rfl, nq, rfl⟩
theorem ends_no (l id : Int) (w : World) (h : ¬ (1 ≤ l ∧ l ≤ 48 ∧ 1 ≤ id ∧ id < 2 * pw l)) :
    Calls Try.prog 25 #[.int .i64 l, .int .i64 id] w fun e w' => e = .returned (.tuple #[.int .i64 0, .int .i64 0, .bool false]) ∧ w = w' := by
  have h := hide h
  go_enter Try.func25, Try.ntmps25
  go_wp2_with (go_at_call 27; refine (right_no l id _ h.out).mono ?_; rintro e w' ⟨rfl, rfl⟩)
  go_ret3
  exact ⟨rfl, rfl⟩
theorem ends_c (l id : Int) (w : World) :
    Calls Try.prog 25 #[.int .i64 l, .int .i64 id] w fun e w' => e = .returned (nnb (endsF l id)) ∧ ∃ n, w' = w.drewN n := by
  unfold endsF
  by_cases h : 1 ≤ l ∧ l ≤ 48 ∧ 1 ≤ id ∧ id < 2 * pw l
  · rw [if_pos (right_iff.2 h)]; exact ends_yes l id w h.1 h.2.1 h.2.2.1 h.2.2.2
  · rw [if_neg (fun k => h (right_iff.1 k))]
    exact (ends_no l id w h).mono fun e w' ⟨he, hw⟩ => ⟨he, 0, hw ▸ rfl⟩

set_option maxHeartbeats 400000 in
theorem up_c (id by_ : Int) (w : World) (h1 : id ≤ 9223372036854775807) :
    Calls Try.prog 34 #[.int .i64 id, .int .i64 by_] w fun e w' => e = .returned (nb (upF id by_)) ∧ w = w' := by
  unfold upF
  by_cases h : 1 ≤ id
  · have hd0 := lg_nonneg id
    have hd1 := lg_le62 h h1
    have hdiv := hide (fun k (h0 : 0 ≤ k) (hk : k ≤ lg id) => lg_div h h0 hk)
    generalize hd : lg id = d at *
    have hDe := hide hd
    clear hd
    by_cases h2 : 0 ≤ by_
    · by_cases h3 : by_ ≤ d
      · rw [if_pos ⟨h, h2, h3⟩]
        go_enter Try.func34, Try.ntmps34
        go_wp2_with (go_at_call 23; refine (depth_yes id _ h h1).mono ?_; rw [hDe.out]; rintro e w' ⟨rfl, rfl⟩)
        go_loop [0, 25] (fun x i => ∃ k : Int, 0 ≤ k ∧ k ≤ by_ ∧ i = .int .i64 k ∧ x = .int .i64 (id / pw k)) (fun _ i => (by_ - intOf i).toNat)
        case atStart => exact ⟨0, by omega, h2, rfl, int_congr (by rw [div_pw_zero])⟩
        case round =>
          obtain ⟨k, hk0, hk, rfl, rfl⟩ := hrel
          have hb : 0 ≤ id / pw k ∧ id / pw k ≤ id := ⟨Int.ediv_nonneg (by omega) (by have := pw_pos k; omega), Int.ediv_le_self _ (by omega)⟩
          have hs := hide (div_pw_succ id k hk0)
          generalize hx0 : id / pw k = x at *
          have hx := hide hx0
          clear hx0
          by_cases hlt : k < by_
          · go_wp2
            go_round
            case rel => exact ⟨k + 1, by omega, by omega, rfl, int_congr (by rw [hs.out])⟩
            case measure => simp [intOf]; omega
          · have hk2 : k = by_ := by omega
            subst hk2
            go_wp2
            go_ret2
            exact ⟨ret2 (int_congr (by rw [hx.out])) rfl, rfl⟩
      · rw [if_neg (by omega)]
        go_enter Try.func34, Try.ntmps34
        go_wp2_with (go_at_call 23; refine (depth_yes id _ h h1).mono ?_; rw [hDe.out]; rintro e w' ⟨rfl, rfl⟩)
        go_ret2
        exact ⟨rfl, rfl⟩
    · rw [if_neg (by omega)]
      go_enter Try.func34, Try.ntmps34
      go_wp2_with (go_at_call 23; refine (depth_yes id _ h h1).mono ?_; rw [hDe.out]; rintro e w' ⟨rfl, rfl⟩)
      go_ret2
      exact ⟨rfl, rfl⟩
  · rw [if_neg (by omega)]
    go_enter Try.func34, Try.ntmps34
    go_wp2_with (go_at_call 23; refine (depth_no id _ (by omega)).mono ?_; rintro e w' ⟨rfl, rfl⟩)
    go_ret2
    exact ⟨rfl, rfl⟩

theorem pair_c (id : Int) (w : World) (h1 : id ≤ 9223372036854775807) :
    Calls Try.prog 36 #[.int .i64 id] w fun e w' => e = .returned (nb (pairF id)) ∧ w = w' := by
  by_cases h : id < 2
  · have hP : Hid (pairF id = (0, false)) := by show _ = _; unfold pairF; rw [if_pos h]
    go_enter Try.func36, Try.ntmps36
    go_wp2
    go_ret2
    exact ⟨by rw [hP.out]; rfl, rfl⟩
  · have hP : Hid (pairF id = (if id % 2 = 0 then id + 1 else id - 1, true)) := by show _ = _; unfold pairF; rw [if_neg h]
    have hx := hide (xor_one id.toNat (by omega))
    go_enter Try.func36, Try.ntmps36
    go_wp2
    go_ret2
    refine ⟨?_, rfl⟩
    rw [hP.out]
    refine ret2 (int_congr ?_) rfl
    have h2 := hx.out
    rw [show ((id.toNat : Nat) : Int) = id by omega] at h2
    exact h2

theorem kids_c (l id : Int) (w : World) :
    Calls Try.prog 29 #[.int .i64 l, .int .i64 id] w fun e w' => e = .returned (nnb (kidsF l id)) ∧ w = w' := by
  have hp : (2 : Int) ^ l.toNat = pw l := rfl
  have hp1 := pw_pos l
  unfold kidsF
  by_cases hr : 1 ≤ l ∧ l ≤ 48 ∧ 1 ≤ id ∧ id < 2 * pw l
  · have hR := right_iff.2 hr
    obtain ⟨hl, hl2, h0, h1⟩ := hr
    have hp2 := pw_le48 hl2
    by_cases h2 : id < pw l
    · rw [if_pos ⟨hR, h2⟩]
      clear hR
      go_enter Try.func29, Try.ntmps29
      go_wp2_with (go_at_call 27; refine (right_yes l id _ hl hl2 h0 h1).mono ?_; rintro e w' ⟨rfl, rfl⟩)
      go_ret3
      exact ⟨rfl, rfl⟩
    · rw [if_neg (fun k => h2 k.2)]
      clear hR
      go_enter Try.func29, Try.ntmps29
      go_wp2_with (go_at_call 27; refine (right_yes l id _ hl hl2 h0 h1).mono ?_; rintro e w' ⟨rfl, rfl⟩)
      go_ret3
      exact ⟨rfl, rfl⟩
  · rw [if_neg (fun k => hr (right_iff.1 k.1))]
    have hr := hide hr
    clear hp hp1
    go_enter Try.func29, Try.ntmps29
    go_wp2_with (go_at_call 27; refine (right_no l id _ hr.out).mono ?_; rintro e w' ⟨rfl, rfl⟩)
    go_ret3
    exact ⟨rfl, rfl⟩
end Go.Proofs.Ytbfecpomlkapdaa

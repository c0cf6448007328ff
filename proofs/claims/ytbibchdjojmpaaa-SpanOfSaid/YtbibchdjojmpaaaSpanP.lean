/- The laws SpanOf and SpanNodes, walked. By the prover of this repo. -/
import Derived.Test.YtbibchdjojmpaaaSpanL
namespace Go.Proofs.Ytbibchdjojmpaaa
open Go.RowKit
open FloatM TwigM

set_option maxRecDepth 100000 in
set_option maxHeartbeats 1000000 in
theorem spanOf_walk (lo hi x : Int) (w : World) (hl : -9223372036854775808 ≤ lo ∧ lo ≤ 9223372036854775807) (hh : -9223372036854775808 ≤ hi ∧ hi ≤ 9223372036854775807) (hx : -9223372036854775808 ≤ x ∧ x ≤ 9223372036854775807) :
    Calls Try.prog 3 #[.int .i64 lo, .int .i64 hi, .int .i64 x] w fun e w' => e = .returned (.bool true) ∧ Below w.heap.size w w' := by
  have h1 := fun W => span_of lo hi W
  have h2 := fun W => ref03_of lo hi W
  by_cases h : 0 ≤ lo ∧ lo ≤ hi ∧ hi ≤ 281474976710655
  · have hs : spanOf lo hi = (lo, hi, true) := if_pos h
    rw [hs] at h1 h2
    obtain ⟨h0, hle, ht⟩ := h
    have h3 := fun W => law03_made lo hi W
    have h4 := fun W => span_ends lo hi W h0 hle ht
    have h5 := fun W => span_holds lo hi x W h0 hle ht
    have o1 := order_eq h0 (show lo ≤ 281474976710655 by omega)
    have o2 := order_eq (show 0 ≤ hi by omega) ht
    unfold cx sp at *
    simp only at h1 h2
    generalize fl lo = X at *
    generalize fl hi = Y at *
    replace h1 := hide h1
    replace h2 := hide h2
    replace h3 := hide h3
    replace h4 := hide h4
    have e1 : (lo != lo) = false := by simp
    have e2 : (hi != hi) = false := by simp
    by_cases c0 : lo ≤ x
    · by_cases c1 : x ≤ hi
      · rw [decide_eq_true ⟨c0, c1⟩] at h5
        replace h5 := hide h5
        go_enter Try.func3, Try.ntmps3
        go_wp2_with fail
        refine (h1.out _).mono ?_
        rintro e w1 ⟨rfl, rfl⟩
        go_wp2_with fail
        refine (h2.out _).mono ?_
        rintro e w2 ⟨rfl, hb2⟩
        go_wp2_with fail
        refine (h3.out _).mono ?_
        rintro e w3 ⟨rfl, hb3⟩
        go_wp2_with fail
        refine (h4.out _).mono ?_
        rintro e w4 ⟨rfl, rfl⟩
        go_wp2_with fail
        refine (h5.out _).mono ?_
        rintro e w5 ⟨rfl, rfl⟩
        go_wp2_with fail
        refine (alive03 _).mono ?_
        rintro e w6 ⟨rfl, hb6⟩
        go_wp2_with fail
        go_ret
        exact ⟨rfl, bthen (bthen (balloc hb2 _) hb3) hb6⟩
      · rw [decide_eq_false (fun k => c1 k.2)] at h5
        replace h5 := hide h5
        have c2 : hi < x := by omega
        go_enter Try.func3, Try.ntmps3
        go_wp2_with fail
        refine (h1.out _).mono ?_
        rintro e w1 ⟨rfl, rfl⟩
        go_wp2_with fail
        refine (h2.out _).mono ?_
        rintro e w2 ⟨rfl, hb2⟩
        go_wp2_with fail
        refine (h3.out _).mono ?_
        rintro e w3 ⟨rfl, hb3⟩
        go_wp2_with fail
        refine (h4.out _).mono ?_
        rintro e w4 ⟨rfl, rfl⟩
        go_wp2_with fail
        refine (h5.out _).mono ?_
        rintro e w5 ⟨rfl, rfl⟩
        go_wp2_with fail
        refine (alive03 _).mono ?_
        rintro e w6 ⟨rfl, hb6⟩
        go_wp2_with fail
        go_ret
        exact ⟨rfl, bthen (bthen (balloc hb2 _) hb3) hb6⟩
    · rw [decide_eq_false (fun k => c0 k.1)] at h5
      replace h5 := hide h5
      have c2 : x < lo := by omega
      go_enter Try.func3, Try.ntmps3
      go_wp2_with fail
      refine (h1.out _).mono ?_
      rintro e w1 ⟨rfl, rfl⟩
      go_wp2_with fail
      refine (h2.out _).mono ?_
      rintro e w2 ⟨rfl, hb2⟩
      go_wp2_with fail
      refine (h3.out _).mono ?_
      rintro e w3 ⟨rfl, hb3⟩
      go_wp2_with fail
      refine (h4.out _).mono ?_
      rintro e w4 ⟨rfl, rfl⟩
      go_wp2_with fail
      refine (h5.out _).mono ?_
      rintro e w5 ⟨rfl, rfl⟩
      go_wp2_with fail
      refine (alive03 _).mono ?_
      rintro e w6 ⟨rfl, hb6⟩
      go_wp2_with fail
      go_ret
      exact ⟨rfl, bthen (bthen (balloc hb2 _) hb3) hb6⟩
  · have hs : spanOf lo hi = (0, 0, false) := if_neg h
    rw [hs] at h1 h2
    have h3 := fun W => law03_made 0 0 W
    have h4 := fun W => span_ends 0 0 W (by omega) (by omega) (by omega)
    have o1 := order_eq (show (0 : Int) ≤ 0 by omega) (show (0 : Int) ≤ 281474976710655 by omega)
    unfold cx sp at *
    simp only at h1 h2
    generalize fl 0 = X at *
    replace h1 := hide h1
    replace h2 := hide h2
    replace h3 := hide h3
    replace h4 := hide h4
    clear h
    go_enter Try.func3, Try.ntmps3
    go_wp2_with fail
    refine (h1.out _).mono ?_
    rintro e w1 ⟨rfl, rfl⟩
    go_wp2_with fail
    refine (h2.out _).mono ?_
    rintro e w2 ⟨rfl, hb2⟩
    go_wp2_with fail
    refine (h3.out _).mono ?_
    rintro e w3 ⟨rfl, hb3⟩
    go_wp2_with fail
    refine (h4.out _).mono ?_
    rintro e w4 ⟨rfl, rfl⟩
    go_wp2_with fail
    refine (alive03 _).mono ?_
    rintro e w6 ⟨rfl, hb6⟩
    go_wp2_with fail
    go_ret
    exact ⟨rfl, bthen (bthen (balloc hb2 _) hb3) hb6⟩

theorem lo_bd (l id : Int) (hl : 1 ≤ l) (hl2 : l ≤ 48) (h0 : 1 ≤ id) (h1 : id < 2 * pw l) : 0 ≤ loF l id ∧ loF l id + pw (l - lg id) ≤ pw l := by
  have hp2 := pw_le48 hl2
  have hd0 := lg_nonneg id
  have hd1 := (lg_le h0 (by omega)).2 h1
  have hs := lg_spec h0
  have hq : loF l id = (id - pw (lg id)) * pw (l - lg id) := rfl
  have hpr : pw (lg id) * pw (l - lg id) = pw l := by rw [← pw_add hd0 (by omega)]; congr 1; omega
  refine ⟨by rw [hq]; exact Int.mul_nonneg (by omega) (by have := pw_pos (l - lg id); omega), ?_⟩
  have e : (id - pw (lg id)) * pw (l - lg id) + pw (l - lg id) = (id - pw (lg id) + 1) * pw (l - lg id) := by rw [Int.add_mul, Int.one_mul]
  rw [hq, ← hpr, e]
  exact Int.mul_le_mul_of_nonneg_right (by omega) (by have := pw_pos (l - lg id); omega)
/-- A node's span: from what, to what, whether it is one. -/
theorem ends_case (l id : Int) : (∃ a b, endsF l id = (a, b, true) ∧ 0 ≤ a ∧ a ≤ b ∧ b ≤ 281474976710655) ∨ endsF l id = (0, 0, false) := by
  unfold endsF
  by_cases h : 1 ≤ l ∧ l ≤ 48 ∧ 1 ≤ id ∧ id < 2 * pw l
  · rw [if_pos (right_iff.2 h)]
    have hb := lo_bd l id h.1 h.2.1 h.2.2.1 h.2.2.2
    have h1 := pw_pos (l - lg id)
    have h2 := pw_le48 h.2.1
    exact .inl ⟨_, _, rfl, hb.1, by omega, by omega⟩
  · rw [if_neg (fun k => h (right_iff.1 k))]
    exact .inr rfl
theorem span_node (l id : Int) (w : World) : Calls Try.prog 16 #[.int .i64 l, .int .i64 id] w fun e w' => e = .returned (.tuple #[cx (endsF l id).1 (endsF l id).2.1, .bool (endsF l id).2.2]) ∧ ∃ n, w' = w.drewN n := by
  have hE := fun W => ends_c l id W
  rcases ends_case l id with ⟨a, b, he, h0, h1, h2⟩ | he
  · rw [he] at hE ⊢
    have hm := hide (fun W => span_made a b W)
    replace hE := hide hE
    generalize cx a b = v at *
    go_enter Try.func16, Try.ntmps16
    go_wp2_with fail
    refine (hE.out _).mono ?_
    rintro e w1 ⟨rfl, n, rfl⟩
    go_wp2_with fail
    refine (hm.out _).mono ?_
    rintro e w1 ⟨rfl, rfl⟩
    go_wp2_with fail
    go_ret2
    exact ⟨rfl, n, rfl⟩
  · rw [he] at hE ⊢
    rw [cx0]
    replace hE := hide hE
    go_enter Try.func16, Try.ntmps16
    go_wp2_with fail
    refine (hE.out _).mono ?_
    rintro e w1 ⟨rfl, n, rfl⟩
    go_wp2_with fail
    go_ret2
    exact ⟨rfl, n, rfl⟩

set_option maxRecDepth 100000 in
theorem ref03_node (l id : Int) (w : World) (hb : id ≤ 9223372036854775807) : Calls Try.prog 17 #[.int .i64 l, .int .i64 id] w fun e w' => e = .returned (.tuple #[sp (endsF l id).1 (endsF l id).2.1, .bool (endsF l id).2.2]) ∧ Below w.heap.size w w' := by
  have hE := fun W => rends_c l id W hb
  rcases ends_case l id with ⟨a, b, he, h0, h1, h2⟩ | he
  · rw [he] at hE ⊢
    have ho := fun W => ref03_of a b W
    have hs : spanOf a b = (a, b, true) := if_pos ⟨h0, h1, h2⟩
    rw [hs] at ho
    replace ho := hide ho
    replace hE := hide hE
    unfold sp at *
    generalize fl a = X at *
    generalize fl b = Y at *
    go_enter Try.func17, Try.ntmps17
    go_wp2_with fail
    refine (hE.out _).mono ?_
    rintro e w1 ⟨rfl, rfl⟩
    all_goals
      go_wp2_with fail
      refine (ho.out _).mono ?_
      rintro e w2 ⟨rfl, hb2⟩
      have hR := (Blk.made w 27 #[.float .f64 0, .float .f64 0])
      have hR2 := hR.kept hb2
      have r0 := hR2.cell 0
      have r1 := hR2.cell 1
      have fr := hR2.free
      simp only [List.getElem?_toArray, List.getElem?_cons_zero, List.getElem?_cons_succ] at r0 r1
      go_wp2_with fail
      refine bodyPost_ret (v := .tuple #[.agg #[.float .f64 X, .float .f64 Y], .bool true]) (by simp [results, Try.results17, go_sem, r0, r1]) rfl ⟨rfl, ?_⟩
      exact ((bthen (balloc0 _ _) hb2).setCell (by simp) _).setCell (by simp) _
  · rw [he] at hE ⊢
    have hz : sp 0 0 = .agg #[.float .f64 0, .float .f64 0] := by unfold sp; rw [fl0]
    show Calls _ _ _ _ (fun e w' => e = .returned (.tuple #[sp 0 0, .bool false]) ∧ Below w.heap.size w w')
    rw [hz]
    replace hE := hide hE
    clear hz
    go_enter Try.func17, Try.ntmps17
    go_wp2_with fail
    refine (hE.out _).mono ?_
    rintro e w1 ⟨rfl, rfl⟩
    all_goals
      go_wp2_with fail
      refine bodyPost_ret (v := .tuple #[.agg #[.float .f64 0, .float .f64 0], .bool false]) (by simp [results, Try.results17, go_sem]) rfl ⟨rfl, ?_⟩
      exact balloc0 _ _

set_option maxRecDepth 100000 in
theorem spanNodes_walk (l id : Int) (w : World) (hl : -9223372036854775808 ≤ l ∧ l ≤ 9223372036854775807) (hi : -9223372036854775808 ≤ id ∧ id ≤ 9223372036854775807) :
    Calls Try.prog 4 #[.int .i64 l, .int .i64 id] w fun e w' => e = .returned (.bool true) ∧ Below w.heap.size w w' := by
  have h1 := fun W => span_node l id W
  have h2 := fun W => ref03_node l id W hi.2
  have hc : ∃ a b ok, endsF l id = (a, b, ok) ∧ 0 ≤ a ∧ a ≤ b ∧ b ≤ 281474976710655 := by
    rcases ends_case l id with ⟨a, b, he, h0, h1, h2⟩ | he
    · exact ⟨a, b, true, he, h0, h1, h2⟩
    · exact ⟨0, 0, false, he, by omega, by omega, by omega⟩
  obtain ⟨a, b, ok, he, h0, hab, hb⟩ := hc
  rw [he] at h1 h2
  have h3 := fun W => law03_made a b W
  have o1 := order_eq h0 (show a ≤ 281474976710655 by omega)
  have o2 := order_eq (show 0 ≤ b by omega) hb
  have ek : (ok == ok) = true := by simp
  unfold cx sp at *
  simp only at h1 h2
  generalize fl a = X at *
  generalize fl b = Y at *
  replace h1 := hide h1
  replace h2 := hide h2
  replace h3 := hide h3
  go_enter Try.func4, Try.ntmps4
  go_wp2_with fail
  refine (h1.out _).mono ?_
  rintro e w1 ⟨rfl, n, rfl⟩
  go_wp2_with fail
  refine (h2.out _).mono ?_
  rintro e w2 ⟨rfl, hb2⟩
  go_wp2_with fail
  refine (h3.out _).mono ?_
  rintro e w3 ⟨rfl, hb3⟩
  go_wp2_with fail
  refine (alive03 _).mono ?_
  rintro e w6 ⟨rfl, hb6⟩
  go_wp2_with fail
  go_ret
  exact ⟨rfl, bthen (bthen (balloc (bthen (below_drewN (Below.refl _ _) n) hb2) _) hb3) hb6⟩
end Go.Proofs.Ytbibchdjojmpaaa

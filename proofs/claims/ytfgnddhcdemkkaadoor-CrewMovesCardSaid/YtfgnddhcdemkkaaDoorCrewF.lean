/- The law CrewMoves, walked. By the prover of this repo. -/
import Derived.Test.YtfgnddhcdemkkaaDoorCrewE
namespace Go.Proofs.YtfgnddhcdemkkaaDoor
open Go.RowKit

def allG (a b i : Nat) : Bool := (List.range i).all fun j => !a.testBit j || b.testBit j
def noneG (a b i : Nat) : Bool := (List.range i).all fun j => !(a.testBit j && b.testBit j)
theorem allG_succ (a b i : Nat) : allG a b (i + 1) = (allG a b i && (!a.testBit i || b.testBit i)) := by unfold allG; rw [List.range_succ, List.all_append]; simp
theorem noneG_succ (a b i : Nat) : noneG a b (i + 1) = (noneG a b i && !(a.testBit i && b.testBit i)) := by unfold noneG; rw [List.range_succ, List.all_append]; simp
theorem high_bit {a j : Nat} (h : a < 18446744073709551616) (hj : 64 ≤ j) : a.testBit j = false := Nat.testBit_lt_two_pow (Nat.lt_of_lt_of_le h (by rw [show (18446744073709551616 : Nat) = 2 ^ 64 from rfl]; exact Nat.pow_le_pow_right (by omega) hj))
theorem all_within (a b : Nat) (ha : a < 18446744073709551616) (hb : b < 18446744073709551616) : withinF (a : Int) (b : Int) = allG a b 64 := by
  rw [Bool.eq_iff_iff, within_iff a b ha hb]
  unfold allG
  rw [List.all_eq_true]
  constructor
  · intro h j _
    cases h1 : a.testBit j
    · rfl
    · rw [h j h1]; rfl
  · intro h j hj
    by_cases h2 : j < 64
    · have := h j (by simpa using h2)
      rw [hj] at this
      simpa using this
    · rw [high_bit ha (by omega)] at hj; cases hj
theorem none_apart (a b : Nat) (ha : a < 18446744073709551616) (hb : b < 18446744073709551616) : apartF (a : Int) (b : Int) = noneG a b 64 := by
  rw [Bool.eq_iff_iff, apart_iff a b ha hb]
  unfold noneG
  rw [List.all_eq_true]
  constructor
  · intro h j _
    have := h j
    cases h1 : a.testBit j <;> cases h2 : b.testBit j <;> simp_all
  · intro h j k
    by_cases h2 : j < 64
    · have := h j (by simpa using h2)
      rw [k.1, k.2] at this
      cases this
    · have := k.1
      rw [high_bit ha (by omega)] at this; cases this
theorem bit_mod (a i : Nat) : a.testBit i = decide (a / 2 ^ i % 2 = 1) := by rw [Nat.testBit_eq_decide_div_mod_eq]
theorem div_half (a i : Nat) : a / 2 ^ i / 2 = a / 2 ^ (i + 1) := by rw [Nat.div_div_eq_div_mul, Nat.pow_succ]

set_option maxRecDepth 100000 in
set_option maxHeartbeats 8000000 in
theorem crewMoves_walk (a b i : Int) (w : World) (hT : Tz w) (ha : 0 ≤ a ∧ a ≤ 18446744073709551615) (hb : 0 ≤ b ∧ b ≤ 18446744073709551615) (_hi : -9223372036854775808 ≤ i ∧ i ≤ 9223372036854775807) :
    Calls Tryd.prog 4 #[.int .u64 a, .int .u64 b, .int .i64 i] w fun e w' => e = .returned (.bool true) ∧ Below w.heap.size w w' := by
  obtain ⟨a, rfl⟩ := Int.eq_ofNat_of_zero_le ha.1
  obtain ⟨b, rfl⟩ := Int.eq_ofNat_of_zero_le hb.1
  have ha2 : a < 18446744073709551616 := by omega
  have hb2 : b < 18446744073709551616 := by omega
  clear ha hb
  have c1 := hide (fun W => crew_with (a : Int) i W (by omega) (by omega))
  have c2 := hide (fun W => ref27_with (a : Int) i W (by omega) (by omega))
  have c3 := hide (fun W => crew_less a i W ha2)
  have c4 := hide (fun W => ref27_less a i W ha2)
  have c5 := fun W => crew_within (a : Int) (b : Int) W
  have c6 := fun W => crew_apart (a : Int) (b : Int) W
  rw [all_within a b ha2 hb2] at c5
  rw [none_apart a b ha2 hb2] at c6
  have hu : unionF [a, b, a] = a ||| b := by
    show (((0 ||| a) ||| b) ||| a) = a ||| b
    apply Nat.eq_of_testBit_eq
    intro j
    simp only [Nat.testBit_or, Nat.zero_testBit, Bool.false_or]
    cases a.testBit j <;> cases b.testBit j <;> rfl
  have c7 := fun (W : World) => crew_union (some ⟨W.heap.size, 0, none⟩) 3 [a, b, a] (W.alloc (.cells #[.int .u64 a, .int .u64 b, .int .u64 a] 27)) (by simp) (by intro x hx; simp at hx; rcases hx with rfl | rfl | rfl <;> assumption)
    (Rd.of_blk (Blk.made W _ _) 0 (by simp) (by intro k hk; simp at hk; match k, hk with | 0, _ => rfl | 1, _ => rfl | 2, _ => rfl))
  rw [hu] at c7
  have c8 := hide (fun W => crew_union none 0 [] W (by simp) (by simp) (Rd.zero _ _ _ _))
  have hor := or_u64 a b ha2 hb2
  generalize withF (a : Int) i = r1 at *
  generalize lessF (a : Int) i = r2 at *
  have e1 : (r1 == r1) = true := by simp
  have e2 : (r2 == r2) = true := by simp
  have hob : a ||| b < 2 ^ 64 := Nat.or_lt_two_pow (by omega) (by omega)
  rw [show (2 : Nat) ^ 64 = 18446744073709551616 from rfl] at hob
  generalize hy : a ||| b = y at *
  replace hy := hide hy
  replace c5 := hide c5
  replace c6 := hide c6
  replace c7 := hide c7
  replace hor := hide hor
  go_enter Tryd.func4, Tryd.ntmps4
  go_wp2_with fail
  go_loop [9, 10, 11, 12, 18] (fun p q x y k => ∃ (j u v : Nat), j ≤ 64 ∧ k = .int .i64 j ∧ x = .int .u64 u ∧ y = .int .u64 v ∧ u < 18446744073709551616 ∧ v < 18446744073709551616 ∧ Hid (u = a / 2 ^ j) ∧ Hid (v = b / 2 ^ j) ∧ p = .bool (allG a b j) ∧ q = .bool (noneG a b j)) (fun _ _ _ _ k => 64 - (intOf k).toNat)
  case atStart => exact ⟨0, a, b, Nat.zero_le _, rfl, rfl, rfl, ha2, hb2, by show _ = _; simp, by show _ = _; simp, rfl, rfl⟩
  case round =>
    obtain ⟨j, u, v, hj, rfl, rfl, rfl, hu2, hv2, hue, hve, rfl, rfl⟩ := hrel
    by_cases hlt : j < 64
    · have n1 := hide (allG_succ a b j)
      have n2 := hide (noneG_succ a b j)
      have t1 : Hid (a.testBit j = decide (u % 2 = 1)) := by show _ = _; rw [hue.out, bit_mod]
      have t2 : Hid (b.testBit j = decide (v % 2 = 1)) := by show _ = _; rw [hve.out, bit_mod]
      have d1 : Hid (u / 2 = a / 2 ^ (j + 1)) := by show _ = _; rw [hue.out, div_half]
      have d2 : Hid (v / 2 = b / 2 ^ (j + 1)) := by show _ = _; rw [hve.out, div_half]
      rcases (show u % 2 = 0 ∨ u % 2 = 1 by omega) with hu | hu
      all_goals
        rcases (show v % 2 = 0 ∨ v % 2 = 1 by omega) with hv | hv
        all_goals
          have f1 : Hid (allG a b (j + 1) = (allG a b j && (!decide (u % 2 = 1) || decide (v % 2 = 1)))) := by show _ = _; rw [n1.out, t1.out, t2.out]
          have f2 : Hid (noneG a b (j + 1) = (noneG a b j && !(decide (u % 2 = 1) && decide (v % 2 = 1)))) := by show _ = _; rw [n2.out, t1.out, t2.out]
          cases hp : allG a b j
          all_goals
            cases hq : noneG a b j
            all_goals
              rw [hp] at f1
              rw [hq] at f2
              clear hp hq
              have hui : (u : Int) % 2 = ((u % 2 : Nat) : Int) := by omega
              have hvi : (v : Int) % 2 = ((v % 2 : Nat) : Int) := by omega
              rw [hu] at hui f1 f2
              rw [hv] at hvi f1 f2
              go_wp2_with fail
              go_round
              case rel => exact ⟨j + 1, u / 2, v / 2, by omega, by go_num, by go_num, by go_num, by omega, by omega, d1, d2, by rw [f1.out]; rfl, by rw [f2.out]; rfl⟩
              case measure => simp [intOf]; omega
    · obtain rfl : j = 64 := by omega
      have hor := hor.out
      have c7 := hide (c7.out w)
      have c8 := hide (fun W => c8.out W)
      generalize allG a b 64 = p at *
      generalize noneG a b 64 = q at *
      have e3 : (p == p) = true := by simp
      have e4 : (q == q) = true := by simp
      have e5 : ((y : Int) == (y : Int)) = true := by simp
      have hT2 := hide (hT.alloc (.cells #[.int .u64 a, .int .u64 b, .int .u64 a] 27))
      have hb0 := hide (balloc0 w (.cells #[.int .u64 a, .int .u64 b, .int .u64 a] 27))
      clear hue hve hy hT
      go_wp2_with fail
      refine c7.out.mono ?_
      rintro e w1 ⟨rfl, rfl⟩
      go_wp2_with fail
      refine (c1.out _).mono ?_
      rintro e w1 ⟨rfl, rfl⟩
      go_wp2_with fail
      refine (c2.out _).mono ?_
      rintro e w1 ⟨rfl, rfl⟩
      go_wp2_with fail
      refine (c3.out _).mono ?_
      rintro e w1 ⟨rfl, rfl⟩
      go_wp2_with fail
      refine (c4.out _).mono ?_
      rintro e w1 ⟨rfl, rfl⟩
      go_wp2_with fail
      refine (c5.out _).mono ?_
      rintro e w1 ⟨rfl, rfl⟩
      go_wp2_with fail
      refine (c6.out _).mono ?_
      rintro e w1 ⟨rfl, rfl⟩
      go_wp2_with fail
      refine (c8.out _).mono ?_
      rintro e w1 ⟨rfl, rfl⟩
      go_wp2_with fail
      refine (alive27 _ hT2.out).mono ?_
      rintro e w1 ⟨rfl, hb1⟩
      go_wp2_with fail
      go_ret
      exact ⟨rfl, bthen hb0.out hb1⟩
end Go.Proofs.YtfgnddhcdemkkaaDoor

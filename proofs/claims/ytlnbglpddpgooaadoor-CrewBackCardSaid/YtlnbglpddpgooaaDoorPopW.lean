/- math/bits.OnesCount64 walked: how many bits of a number are 1; (crew.Set).Len. By the prover of this repo. -/
import Derived.Test.YtlnbglpddpgooaaDoorEach
import Derived.Test.YtlnbglpddpgooaaDoorPop
namespace Go.Proofs.YtlnbglpddpgooaaDoor
open Go.RowKit

theorem and_i64_127 (a : Nat) (ha : a < 9223372036854775808) : bits .and .i64 (a : Int) 127 = ((a % 128 : Nat) : Int) := by
  have e : (BitVec.ofInt 64 (a : Int) &&& BitVec.ofInt 64 (127 : Int)).toNat = a % 128 := by
    rw [BitVec.toNat_and, toNat_u64 a (by omega), show (BitVec.ofInt 64 (127 : Int)).toNat = 2 ^ 7 - 1 from by decide, Nat.and_two_pow_sub_one_eq_mod]
  show IntKind.i64.wrap ((BitVec.ofInt 64 (a : Int) &&& BitVec.ofInt 64 (127 : Int)).toNat : Int) = _
  rw [e, IntKind.wrap_i64]
  omega
theorem ones_c (x : Nat) (hx : x < 18446744073709551616) (w : World) : Calls Tryd.prog 35 #[.int .u64 x] w fun e w' => e = .returned (.int .i64 (PopM.cnt 64 x)) ∧ w' = w := by
  have hO := PopM.ones x hx
  obtain ⟨y1, hy1⟩ : ∃ v, v = x / 2 := ⟨_, rfl⟩
  have A1 := and_u64 y1 6148914691236517205 (by omega) (by omega)
  have A2 := and_u64 x 6148914691236517205 (by omega) (by omega)
  have B1 : y1 &&& 6148914691236517205 ≤ 6148914691236517205 := Nat.and_le_right
  have B2 : x &&& 6148914691236517205 ≤ 6148914691236517205 := Nat.and_le_right
  have S1 : PopM.s1 8 x = (y1 &&& 6148914691236517205) + (x &&& 6148914691236517205) := by unfold PopM.s1; rw [PopM.M85, ← hy1]
  unfold PopM.P at hO
  rw [S1] at hO
  clear S1
  generalize y1 &&& 6148914691236517205 = a1 at *
  generalize x &&& 6148914691236517205 = a2 at *
  obtain ⟨x1, hx1⟩ : ∃ v, v = a1 + a2 := ⟨_, rfl⟩
  rw [← hx1] at hO
  obtain ⟨y2, hy2⟩ : ∃ v, v = x1 / 4 := ⟨_, rfl⟩
  have A3 := and_u64 y2 3689348814741910323 (by omega) (by omega)
  have A4 := and_u64 x1 3689348814741910323 (by omega) (by omega)
  have B3 : y2 &&& 3689348814741910323 ≤ 3689348814741910323 := Nat.and_le_right
  have B4 : x1 &&& 3689348814741910323 ≤ 3689348814741910323 := Nat.and_le_right
  have S2 : PopM.s2 8 x1 = (y2 &&& 3689348814741910323) + (x1 &&& 3689348814741910323) := by unfold PopM.s2; rw [PopM.M51, ← hy2]
  rw [S2] at hO
  clear S2
  generalize y2 &&& 3689348814741910323 = b1 at *
  generalize x1 &&& 3689348814741910323 = b2 at *
  obtain ⟨x2, hx2⟩ : ∃ v, v = b1 + b2 := ⟨_, rfl⟩
  rw [← hx2] at hO
  obtain ⟨y3, hy3⟩ : ∃ v, v = x2 / 16 := ⟨_, rfl⟩
  obtain ⟨z3, hz3⟩ : ∃ v, v = y3 + x2 := ⟨_, rfl⟩
  have A5 := and_u64 z3 1085102592571150095 (by omega) (by omega)
  have S3 : PopM.s3 8 x2 = z3 &&& 1085102592571150095 := by unfold PopM.s3; rw [PopM.M15, hz3, hy3]
  rw [S3] at hO
  clear S3
  generalize z3 &&& 1085102592571150095 = x3 at *
  obtain ⟨hB, hO⟩ := hO
  generalize PopM.cnt 64 x = C at *
  obtain ⟨y4, hy4⟩ : ∃ v, v = x3 / 256 := ⟨_, rfl⟩
  rw [← hy4] at hO
  obtain ⟨x4, hx4⟩ : ∃ v, v = x3 + y4 := ⟨_, rfl⟩
  rw [← hx4] at hO
  obtain ⟨y5, hy5⟩ : ∃ v, v = x4 / 65536 := ⟨_, rfl⟩
  rw [← hy5] at hO
  obtain ⟨x5, hx5⟩ : ∃ v, v = x4 + y5 := ⟨_, rfl⟩
  rw [← hx5] at hO
  obtain ⟨y6, hy6⟩ : ∃ v, v = x5 / 4294967296 := ⟨_, rfl⟩
  rw [← hy6] at hO
  obtain ⟨x6, hx6⟩ : ∃ v, v = x5 + y6 := ⟨_, rfl⟩
  rw [← hx6] at hO
  have A6 := and_i64_127 x6 (by omega)
  rw [hO] at A6
  rw [show ((6148914691236517205 : Nat) : Int) = 6148914691236517205 from rfl] at A1 A2
  rw [show ((3689348814741910323 : Nat) : Int) = 3689348814741910323 from rfl] at A3 A4
  rw [show ((1085102592571150095 : Nat) : Int) = 1085102592571150095 from rfl] at A5
  have e1 : (x : Int) / 2 = (y1 : Int) := by omega
  have e2 : (x1 : Int) / 4 = (y2 : Int) := by omega
  have e3 : (x2 : Int) / 16 = (y3 : Int) := by omega
  have e4 : (x3 : Int) / 256 = (y4 : Int) := by omega
  have e5 : (x4 : Int) / 65536 = (y5 : Int) := by omega
  have e6 : (x5 : Int) / 4294967296 = (y6 : Int) := by omega
  have g1 : (a1 : Int) + (a2 : Int) = (x1 : Int) := by omega
  have g2 : (b1 : Int) + (b2 : Int) = (x2 : Int) := by omega
  have g3 : (y3 : Int) + (x2 : Int) = (z3 : Int) := by omega
  have g4 : (x3 : Int) + (y4 : Int) = (x4 : Int) := by omega
  have g5 : (x4 : Int) + (y5 : Int) = (x5 : Int) := by omega
  have g6 : (x5 : Int) + (y6 : Int) = (x6 : Int) := by omega
  have k1 : x1 ≤ 12297829382473034410 := by omega
  have k2 : x2 ≤ 7378697629483820646 := by omega
  have kz : z3 ≤ 8000000000000000000 := by omega
  have k4 : x4 ≤ 2000000000000000000 := by omega
  have k5 : x5 ≤ 2500000000000000000 := by omega
  have k6 : x6 ≤ 3000000000000000000 := by omega
  clear hO hx1 hx2 hx4 hx5 hx6 hy1 hy2 hy3 hy4 hy5 hy6 hz3 B1 B2 B3 B4
  go_enter Tryd.func35, Tryd.ntmps35
  go_wp2_with fail
  go_ret
  exact ⟨rfl, rfl⟩

theorem cnt_bits (s : Nat) : PopM.cnt 64 (s % 281474976710656) = (bitsL s).length := by
  have hsub : ∀ i, (s % 281474976710656).testBit i = (decide (i < 48) && s.testBit i) := fun i => Nat.testBit_mod_two_pow s 48 i
  unfold PopM.cnt bitsL
  rw [show (64 : Nat) = 48 + 16 from rfl, List.range_add, List.filter_append, List.length_append]
  have h1 : ((List.range 48).filter fun i => (s % 281474976710656).testBit i) = (List.range 48).filter fun i => s.testBit i := by
    apply List.filter_congr
    intro i hi
    rw [hsub, decide_eq_true (by simpa using hi), Bool.true_and]
  have h2 : (((List.range 16).map fun x => 48 + x).filter fun i => (s % 281474976710656).testBit i) = [] := by
    rw [List.filter_eq_nil_iff]
    intro i hi
    obtain ⟨j, _, rfl⟩ := List.mem_map.1 hi
    rw [hsub, decide_eq_false (by omega), Bool.false_and]
    decide
  rw [h1, h2]
  rfl
theorem crew_len (s : Nat) (hs : s < 18446744073709551616) (w : World) : Calls Tryd.prog 24 #[.int .u64 s] w fun e w' => e = .returned (.int .i64 (bitsL s).length) ∧ w' = w := by
  have hA := and_all s hs
  have hC := ones_c (s % 281474976710656) (by omega) w
  rw [cnt_bits] at hC
  generalize s % 281474976710656 = m at *
  replace hC := hide hC
  go_enter Tryd.func24, Tryd.ntmps24
  go_wp2_with (go_at_call 35; refine hC.out.mono ?_; rintro e w1 ⟨rfl, rfl⟩)
  go_ret
  exact ⟨rfl, rfl⟩
end Go.Proofs.YtlnbglpddpgooaaDoor

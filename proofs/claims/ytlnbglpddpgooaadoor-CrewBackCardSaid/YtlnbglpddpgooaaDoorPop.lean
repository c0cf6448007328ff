/- How many bits a number has: the sum that math/bits.OnesCount64 makes. Plain facts. By the prover of this repo. -/
import Derived.RowKit
namespace Go.Proofs.YtlnbglpddpgooaaDoor
namespace PopM

/-- So many of the first k bits are 1. -/
def cnt (k m : Nat) : Nat := ((List.range k).filter fun i => m.testBit i).length
/-- The same byte n times. -/
def M (k : Nat) : Nat → Nat
  | 0 => 0
  | n + 1 => 256 * M k n + k
def s1 (n x : Nat) : Nat := ((x / 2) &&& M 85 n) + (x &&& M 85 n)
def s2 (n x : Nat) : Nat := ((x / 4) &&& M 51 n) + (x &&& M 51 n)
def s3 (n x : Nat) : Nat := (x / 16 + x) &&& M 15 n

theorem and_split (u v a b : Nat) (ha : a < 256) (hb : b < 256) : (256 * u + a) &&& (256 * v + b) = 256 * (u &&& v) + (a &&& b) := by
  have hab : a &&& b < 2 ^ 8 := Nat.and_lt_two_pow _ hb
  have e1 : 256 * u + a = 2 ^ 8 * u + a := rfl
  have e2 : 256 * v + b = 2 ^ 8 * v + b := rfl
  have e3 : 256 * (u &&& v) + (a &&& b) = 2 ^ 8 * (u &&& v) + (a &&& b) := rfl
  rw [e1, e2, e3]
  apply Nat.eq_of_testBit_eq
  intro j
  rw [Nat.testBit_and, Nat.testBit_two_pow_mul_add u (by exact ha) j, Nat.testBit_two_pow_mul_add v (by exact hb) j, Nat.testBit_two_pow_mul_add (u &&& v) hab j]
  split
  · rw [Nat.testBit_and]
  · rw [Nat.testBit_and]
theorem low1 : ∀ c : Fin 2, ∀ b : Fin 256, (128 * c.val + b.val / 2) &&& 85 = (b.val / 2) &&& 85 := by decide +kernel
theorem low2 : ∀ c : Fin 4, ∀ b : Fin 256, (64 * c.val + b.val / 4) &&& 51 = (b.val / 4) &&& 51 := by decide +kernel
theorem low3 : ∀ c : Fin 5, ∀ b : Fin 69, (16 * c.val + b.val / 16 + b.val) &&& 15 = (b.val / 16 + b.val) &&& 15 := by decide +kernel
def c1 (b : Nat) : Nat := ((b / 2) &&& 85) + (b &&& 85)
def c2 (b : Nat) : Nat := ((b / 4) &&& 51) + (b &&& 51)
def c3 (b : Nat) : Nat := (b / 16 + b) &&& 15
theorem c1_lt : ∀ b : Fin 256, c1 b.val < 256 := by decide +kernel
theorem c2_le : ∀ b : Fin 256, c2 (c1 b.val) ≤ 68 ∧ c2 (c1 b.val) % 16 ≤ 4 := by decide +kernel
theorem c3_cnt : ∀ b : Fin 256, c3 (c2 (c1 b.val)) = cnt 8 b.val := by decide +kernel
theorem cnt8_le : ∀ b : Fin 256, cnt 8 b.val ≤ 8 := by decide +kernel
theorem s1_step (n a b : Nat) (hb : b < 256) : s1 (n + 1) (256 * a + b) = 256 * s1 n a + c1 b := by
  show (((256 * a + b) / 2) &&& (256 * M 85 n + 85)) + ((256 * a + b) &&& (256 * M 85 n + 85)) = 256 * (((a / 2) &&& M 85 n) + (a &&& M 85 n)) + (((b / 2) &&& 85) + (b &&& 85))
  have e : (256 * a + b) / 2 = 256 * (a / 2) + (128 * (a % 2) + b / 2) := by omega
  have hl : (128 * (a % 2) + b / 2) &&& 85 = (b / 2) &&& 85 := low1 ⟨a % 2, by omega⟩ ⟨b, hb⟩
  rw [e, and_split _ _ _ _ (by omega) (by omega), and_split _ _ _ _ hb (by omega), hl]
  generalize (a / 2 &&& M 85 n) = t1
  generalize (a &&& M 85 n) = t2
  generalize (b / 2 &&& 85) = t3
  generalize (b &&& 85) = t4
  omega
theorem s2_step (n a b : Nat) (hb : b < 256) : s2 (n + 1) (256 * a + b) = 256 * s2 n a + c2 b := by
  show (((256 * a + b) / 4) &&& (256 * M 51 n + 51)) + ((256 * a + b) &&& (256 * M 51 n + 51)) = 256 * (((a / 4) &&& M 51 n) + (a &&& M 51 n)) + (((b / 4) &&& 51) + (b &&& 51))
  have e : (256 * a + b) / 4 = 256 * (a / 4) + (64 * (a % 4) + b / 4) := by omega
  have hl : (64 * (a % 4) + b / 4) &&& 51 = (b / 4) &&& 51 := low2 ⟨a % 4, by omega⟩ ⟨b, hb⟩
  rw [e, and_split _ _ _ _ (by omega) (by omega), and_split _ _ _ _ hb (by omega), hl]
  generalize (a / 4 &&& M 51 n) = t1
  generalize (a &&& M 51 n) = t2
  generalize (b / 4 &&& 51) = t3
  generalize (b &&& 51) = t4
  omega
theorem s3_step (n a b : Nat) (hb : b ≤ 68) (ha : a % 16 ≤ 4) : s3 (n + 1) (256 * a + b) = 256 * s3 n a + c3 b := by
  show ((256 * a + b) / 16 + (256 * a + b)) &&& (256 * M 15 n + 15) = 256 * ((a / 16 + a) &&& M 15 n) + ((b / 16 + b) &&& 15)
  have e : (256 * a + b) / 16 + (256 * a + b) = 256 * (a / 16 + a) + (16 * (a % 16) + b / 16 + b) := by omega
  have hl : (16 * (a % 16) + b / 16 + b) &&& 15 = (b / 16 + b) &&& 15 := low3 ⟨a % 16, by omega⟩ ⟨b, by omega⟩
  rw [e, and_split _ _ _ _ (by omega) (by omega), hl]
def P (n x : Nat) : Nat := s3 n (s2 n (s1 n x))
theorem nib (n a : Nat) : s2 n (s1 n a) % 16 ≤ 4 := by
  cases n with
  | zero => simp [s2, M]
  | succ n =>
    have e : a = 256 * (a / 256) + a % 256 := by omega
    have hb : a % 256 < 256 := by omega
    rw [e, s1_step n _ _ hb, s2_step n _ _ (c1_lt ⟨_, hb⟩)]
    have h2 : c2 (c1 (a % 256)) ≤ 68 ∧ c2 (c1 (a % 256)) % 16 ≤ 4 := c2_le ⟨_, hb⟩
    generalize c2 (c1 (a % 256)) = t at h2 ⊢
    generalize s2 n (s1 n (a / 256)) = u
    omega
theorem P_step (n a b : Nat) (hb : b < 256) : P (n + 1) (256 * a + b) = 256 * P n a + cnt 8 b := by
  unfold P
  rw [s1_step n a b hb, s2_step n _ _ (c1_lt ⟨b, hb⟩), s3_step n _ _ (c2_le ⟨b, hb⟩).1 (nib n a)]
  have := c3_cnt ⟨b, hb⟩
  simp only [] at this
  rw [this]
theorem P_zero (x : Nat) : P 0 x = 0 := by unfold P s3 M; simp
theorem cnt_step (k a b : Nat) (hb : b < 256) : cnt (8 + k) (256 * a + b) = cnt 8 b + cnt k a := by
  unfold cnt
  rw [List.range_add, List.filter_append, List.length_append]
  have e : ∀ j, (256 * a + b).testBit j = if j < 8 then b.testBit j else a.testBit (j - 8) := fun j => Nat.testBit_two_pow_mul_add (i := 8) a (show b < 2 ^ 8 from hb) j
  congr 1
  · congr 1
    apply List.filter_congr
    intro j hj
    rw [e, if_pos (by simpa using hj)]
  · rw [List.filter_map, List.length_map]
    congr 1
    apply List.filter_congr
    intro j _
    show (256 * a + b).testBit (8 + j) = _
    rw [e, if_neg (by omega), Nat.add_sub_cancel_left]
/-- Eight bytes' sums, and what comes of them. -/
theorem fold8 (p0 p1 p2 p3 p4 p5 p6 p7 y : Nat) (h0 : p0 ≤ 8) (h1 : p1 ≤ 8) (h2 : p2 ≤ 8) (h3 : p3 ≤ 8) (h4 : p4 ≤ 8) (h5 : p5 ≤ 8) (h6 : p6 ≤ 8) (h7 : p7 ≤ 8)
    (hy : y = 256 * (256 * (256 * (256 * (256 * (256 * (256 * p7 + p6) + p5) + p4) + p3) + p2) + p1) + p0) :
    y < 1152921504606846976 ∧ (((y + y / 256) + (y + y / 256) / 65536) + ((y + y / 256) + (y + y / 256) / 65536) / 4294967296) % 128 = p0 + p1 + p2 + p3 + p4 + p5 + p6 + p7 := by
  obtain ⟨y6, g6⟩ : ∃ v, v = 256 * p7 + p6 := ⟨_, rfl⟩
  obtain ⟨y5, g5⟩ : ∃ v, v = 256 * y6 + p5 := ⟨_, rfl⟩
  obtain ⟨y4, g4⟩ : ∃ v, v = 256 * y5 + p4 := ⟨_, rfl⟩
  obtain ⟨y3, g3⟩ : ∃ v, v = 256 * y4 + p3 := ⟨_, rfl⟩
  obtain ⟨y2, g2⟩ : ∃ v, v = 256 * y3 + p2 := ⟨_, rfl⟩
  obtain ⟨y1, g1⟩ : ∃ v, v = 256 * y2 + p1 := ⟨_, rfl⟩
  rw [← g6, ← g5, ← g4, ← g3, ← g2, ← g1] at hy
  have d1 : y / 256 = y1 := by clear g1 g2 g3 g4 g5 g6; omega
  have hs : y < 1152921504606846976 := by
    have b6 : y6 ≤ 2056 := by clear hy g1 g2 g3 g4 g5; omega
    have b5 : y5 ≤ 526344 := by clear hy g1 g2 g3 g4 g6; omega
    have b4 : y4 ≤ 134744072 := by clear hy g1 g2 g3 g5 g6; omega
    have b3 : y3 ≤ 34494482440 := by clear hy g1 g2 g4 g5 g6; omega
    have b2 : y2 ≤ 8830587504648 := by clear hy g1 g3 g4 g5 g6; omega
    have b1 : y1 ≤ 2260630401189896 := by clear hy g2 g3 g4 g5 g6; omega
    clear g1 g2 g3 g4 g5 g6
    omega
  refine ⟨hs, ?_⟩
  rw [d1]
  obtain ⟨w6, k6⟩ : ∃ v, v = 256 * p7 + (p6 + p7) := ⟨_, rfl⟩
  obtain ⟨w5, k5⟩ : ∃ v, v = 256 * w6 + (p5 + p6) := ⟨_, rfl⟩
  obtain ⟨w4, k4⟩ : ∃ v, v = 256 * w5 + (p4 + p5) := ⟨_, rfl⟩
  obtain ⟨w3, k3⟩ : ∃ v, v = 256 * w4 + (p3 + p4) := ⟨_, rfl⟩
  obtain ⟨w2, k2⟩ : ∃ v, v = 256 * w3 + (p2 + p3) := ⟨_, rfl⟩
  obtain ⟨w1, k1⟩ : ∃ v, v = 256 * w2 + (p1 + p2) := ⟨_, rfl⟩
  have l6 : w6 = y6 + p7 := by omega
  have l5 : w5 = y5 + y6 := by clear k1 k2 k3 k4 k6 g1 g2 g3 g4 hy; omega
  have l4 : w4 = y4 + y5 := by clear k1 k2 k3 k5 k6 g1 g2 g3 g6 hy; omega
  have l3 : w3 = y3 + y4 := by clear k1 k2 k4 k5 k6 g1 g2 g5 g6 hy; omega
  have l2 : w2 = y2 + y3 := by clear k1 k3 k4 k5 k6 g1 g4 g5 g6 hy; omega
  have l1 : w1 = y1 + y2 := by clear k2 k3 k4 k5 k6 g3 g4 g5 g6 hy; omega
  have hz : y + y1 = 256 * w1 + (p0 + p1) := by clear k1 k2 k3 k4 k5 k6 g2 g3 g4 g5 g6; omega
  rw [hz]
  clear g1 g2 g3 g4 g5 g6 hy hz d1 hs l1 l2 l3 l4 l5 l6
  have d2 : (256 * w1 + (p0 + p1)) / 65536 = w2 := by clear k2 k3 k4 k5 k6; omega
  rw [d2]
  obtain ⟨v6, j6⟩ : ∃ v, v = 256 * p7 + (p6 + p7) := ⟨_, rfl⟩
  obtain ⟨v5, j5⟩ : ∃ v, v = 256 * v6 + (p5 + p6 + p7) := ⟨_, rfl⟩
  obtain ⟨v4, j4⟩ : ∃ v, v = 256 * v5 + (p4 + p5 + p6 + p7) := ⟨_, rfl⟩
  obtain ⟨v3, j3⟩ : ∃ v, v = 256 * v4 + (p3 + p4 + p5 + p6) := ⟨_, rfl⟩
  obtain ⟨v2, j2⟩ : ∃ v, v = 256 * v3 + (p2 + p3 + p4 + p5) := ⟨_, rfl⟩
  obtain ⟨v1, j1⟩ : ∃ v, v = 256 * v2 + (p1 + p2 + p3 + p4) := ⟨_, rfl⟩
  have l6 : v6 = w6 := by rw [j6, k6]
  have l5 : v5 = w5 + p7 := by clear k1 k2 k3 k4 k6 j1 j2 j3 j4 j6; omega
  have l4 : v4 = w4 + w6 := by clear k1 k2 k3 j1 j2 j3; omega
  have l3 : v3 = w3 + w5 := by clear k1 k2 k4 k6 j1 j2 j4 j5 j6 l5 l6; omega
  have l2 : v2 = w2 + w4 := by clear k1 k3 k5 k6 j1 j3 j4 j5 j6 l4 l5 l6; omega
  have l1 : v1 = w1 + w3 := by clear k2 k4 k5 k6 j2 j3 j4 j5 j6 l3 l4 l5 l6; omega
  have hz : 256 * w1 + (p0 + p1) + w2 = 256 * v1 + (p0 + p1 + p2 + p3) := by clear k1 k3 k4 k5 k6 j1 j2 j3 j4 j5 j6 l2 l3 l4 l5 l6; omega
  rw [hz]
  clear k1 k2 k3 k4 k5 k6 hz d2 l1 l2 l3 l4 l5 l6
  have d3 : (256 * v1 + (p0 + p1 + p2 + p3)) / 4294967296 = v4 := by
    have a1 : (256 * v1 + (p0 + p1 + p2 + p3)) / 256 = v1 := by clear j1 j2 j3 j4 j5 j6; omega
    have a2 : v1 / 256 = v2 := by clear j2 j3 j4 j5 j6 a1; omega
    have a3 : v2 / 256 = v3 := by clear j1 j3 j4 j5 j6 a1 a2; omega
    have a4 : v3 / 256 = v4 := by clear j1 j2 j4 j5 j6 a1 a2 a3; omega
    rw [show (4294967296 : Nat) = 256 * 256 * 256 * 256 from rfl, ← Nat.div_div_eq_div_mul, ← Nat.div_div_eq_div_mul, ← Nat.div_div_eq_div_mul, a1, a2, a3, a4]
  rw [d3]
  clear d3 j1 j2 j3 j5 j6
  omega
theorem ones (x : Nat) (hx : x < 18446744073709551616) : P 8 x < 1152921504606846976 ∧ (((P 8 x + P 8 x / 256) + (P 8 x + P 8 x / 256) / 65536) + ((P 8 x + P 8 x / 256) + (P 8 x + P 8 x / 256) / 65536) / 4294967296) % 128 = cnt 64 x := by
  have e0 : x = 256 * (x / 256) + x % 256 := by omega
  have m0 : x % 256 < 256 := by omega
  obtain ⟨x1, h1⟩ : ∃ x1, x1 = x / 256 := ⟨_, rfl⟩
  have e1 : x1 = 256 * (x1 / 256) + x1 % 256 := by omega
  have m1 : x1 % 256 < 256 := by omega
  obtain ⟨x2, h2⟩ : ∃ x2, x2 = x1 / 256 := ⟨_, rfl⟩
  have e2 : x2 = 256 * (x2 / 256) + x2 % 256 := by omega
  have m2 : x2 % 256 < 256 := by omega
  obtain ⟨x3, h3⟩ : ∃ x3, x3 = x2 / 256 := ⟨_, rfl⟩
  have e3 : x3 = 256 * (x3 / 256) + x3 % 256 := by omega
  have m3 : x3 % 256 < 256 := by omega
  obtain ⟨x4, h4⟩ : ∃ x4, x4 = x3 / 256 := ⟨_, rfl⟩
  have e4 : x4 = 256 * (x4 / 256) + x4 % 256 := by omega
  have m4 : x4 % 256 < 256 := by omega
  obtain ⟨x5, h5⟩ : ∃ x5, x5 = x4 / 256 := ⟨_, rfl⟩
  have e5 : x5 = 256 * (x5 / 256) + x5 % 256 := by omega
  have m5 : x5 % 256 < 256 := by omega
  obtain ⟨x6, h6⟩ : ∃ x6, x6 = x5 / 256 := ⟨_, rfl⟩
  have e6 : x6 = 256 * (x6 / 256) + x6 % 256 := by omega
  have m6 : x6 % 256 < 256 := by omega
  obtain ⟨x7, h7⟩ : ∃ x7, x7 = x6 / 256 := ⟨_, rfl⟩
  have hx7 : x7 < 256 := by omega
  have e7 : x7 = 256 * 0 + x7 := by omega
  rw [← h1] at e0
  rw [← h2] at e1
  rw [← h3] at e2
  rw [← h4] at e3
  rw [← h5] at e4
  rw [← h6] at e5
  rw [← h7] at e6
  have q7 : P 1 x7 = cnt 8 x7 := by
    have := P_step 0 0 x7 hx7
    rw [P_zero] at this
    simpa using this
  have q6 : P 2 x6 = 256 * P 1 x7 + cnt 8 (x6 % 256) := by have := P_step 1 x7 (x6 % 256) m6; rw [← e6] at this; exact this
  have q5 : P 3 x5 = 256 * P 2 x6 + cnt 8 (x5 % 256) := by have := P_step 2 x6 (x5 % 256) m5; rw [← e5] at this; exact this
  have q4 : P 4 x4 = 256 * P 3 x5 + cnt 8 (x4 % 256) := by have := P_step 3 x5 (x4 % 256) m4; rw [← e4] at this; exact this
  have q3 : P 5 x3 = 256 * P 4 x4 + cnt 8 (x3 % 256) := by have := P_step 4 x4 (x3 % 256) m3; rw [← e3] at this; exact this
  have q2 : P 6 x2 = 256 * P 5 x3 + cnt 8 (x2 % 256) := by have := P_step 5 x3 (x2 % 256) m2; rw [← e2] at this; exact this
  have q1 : P 7 x1 = 256 * P 6 x2 + cnt 8 (x1 % 256) := by have := P_step 6 x2 (x1 % 256) m1; rw [← e1] at this; exact this
  have q0 : P 8 x = 256 * P 7 x1 + cnt 8 (x % 256) := by have := P_step 7 x1 (x % 256) m0; rw [← e0] at this; exact this
  have t6 : cnt 16 x6 = cnt 8 (x6 % 256) + cnt 8 x7 := by have := cnt_step 8 x7 (x6 % 256) m6; rw [← e6] at this; exact this
  have t5 : cnt 24 x5 = cnt 8 (x5 % 256) + cnt 16 x6 := by have := cnt_step 16 x6 (x5 % 256) m5; rw [← e5] at this; exact this
  have t4 : cnt 32 x4 = cnt 8 (x4 % 256) + cnt 24 x5 := by have := cnt_step 24 x5 (x4 % 256) m4; rw [← e4] at this; exact this
  have t3 : cnt 40 x3 = cnt 8 (x3 % 256) + cnt 32 x4 := by have := cnt_step 32 x4 (x3 % 256) m3; rw [← e3] at this; exact this
  have t2 : cnt 48 x2 = cnt 8 (x2 % 256) + cnt 40 x3 := by have := cnt_step 40 x3 (x2 % 256) m2; rw [← e2] at this; exact this
  have t1 : cnt 56 x1 = cnt 8 (x1 % 256) + cnt 48 x2 := by have := cnt_step 48 x2 (x1 % 256) m1; rw [← e1] at this; exact this
  have t0 : cnt 64 x = cnt 8 (x % 256) + cnt 56 x1 := by have := cnt_step 56 x1 (x % 256) m0; rw [← e0] at this; exact this
  have r := fold8 (cnt 8 (x % 256)) (cnt 8 (x1 % 256)) (cnt 8 (x2 % 256)) (cnt 8 (x3 % 256)) (cnt 8 (x4 % 256)) (cnt 8 (x5 % 256)) (cnt 8 (x6 % 256)) (cnt 8 x7) (P 8 x)
    (cnt8_le ⟨_, m0⟩) (cnt8_le ⟨_, m1⟩) (cnt8_le ⟨_, m2⟩) (cnt8_le ⟨_, m3⟩) (cnt8_le ⟨_, m4⟩) (cnt8_le ⟨_, m5⟩) (cnt8_le ⟨_, m6⟩) (cnt8_le ⟨_, hx7⟩)
    (by rw [q0, q1, q2, q3, q4, q5, q6, q7])
  refine ⟨r.1, r.2.trans ?_⟩
  rw [t0, t1, t2, t3, t4, t5, t6]
  omega
theorem M85 : M 85 8 = 6148914691236517205 := by decide
theorem M51 : M 51 8 = 3689348814741910323 := by decide
theorem M15 : M 15 8 = 1085102592571150095 := by decide
end PopM
end Go.Proofs.YtlnbglpddpgooaaDoor

/- Part 2 of the proof: texts joined by this repo's tools/merge2.py (Frame CrewA LetterW CrewB). By the prover of this repo. -/
import Derived.Test.YteebghoijaaakaaGreatM1
import Derived.ProofKit
import Derived.OpenShut
import Derived.ShutString
import Derived.ChangeOld
import Derived.SliceStrings
set_option linter.unusedVariables false
set_option linter.unusedSimpArgs false
/- What every law's last step shares: an argument that came in, opened into what its walk is told of it. By the prover of this repo. -/
namespace Go.Proofs.YteebghoijaaakaaGreat
open Go.ChangeShapes Go.WideShapes Go.ChangeAt Go.RowKit

theorem own : ownKnob Tryz.prog.godebug = none := by kernel_rfl
theorem laidOut : laidOutB Tryz.prog = true := by kernel_rfl

theorem rd_cells {w : World} {a : Addr} {n size : Nat} {f : Nat → Value} (hs : 0 < size) (h : ∀ i, i < n * size → w.cell? (a.add i) = some (f i)) : Rd w (some a) n size f := fun hn => by
  have h0 := h 0 (Nat.mul_pos hn hs)
  have e0 : a.add 0 = a := by simp [Addr.add]
  rw [e0] at h0
  have hsp := World.cell?_spot h0
  have hlt := World.block_lt_of_cell? w a h0
  obtain ⟨b, off, spot⟩ := a
  simp only at hsp hlt
  subst hsp
  refine ⟨b, off, rfl, hlt, fun i hi => ?_⟩
  have e : (⟨b, off, none⟩ : Addr).add i = ⟨b, off + i, none⟩ := by unfold Addr.add; split <;> simp_all
  rw [← e]
  exact h i hi

theorem i64_bounds {n : Int} (h : (Lit.int .i64 n).wf = true) : -9223372036854775808 ≤ n ∧ n ≤ 9223372036854775807 := by
  have := bounds_i64 h
  omega
section
variable {H : Type} {enc : TypeId × Value → H} {P : Program} {w : World} {sp : Nat → Bool} {held : Bool} {r : Reach} {b0 : Nat}
theorem arg_ints {t e : TypeId} {k : IntKind} {v : Value} {d : DataW H} {p : List MemPlace} (ht : P.underlying t = some (.slice e)) (he : P.underlying e = some (.int k)) (hc : P.cellsOf e = 1)
    (hv : Value.okWide P w r b0 t v) (h : DataW.Trod enc P w 0 (fun _ => true) held t v d p) :
    ∃ (a : Option Addr) (n c : Nat) (z : List Int), v = .slice a n c ∧ z.length = n ∧ n ≤ c ∧ c ≤ maxLen ∧ Rd w a n 1 (fun i => .int k (z.getD i 0)) ∧ ∀ x ∈ z, (Lit.int k x).wf = true := by
  obtain ⟨a, n, c, rfl⟩ := okWide_slice ht hv
  obtain ⟨fuel, hf⟩ := h
  rcases open_ints ht he hc hf with ⟨hcs, _⟩ | ⟨x, l, c', zs, hcs, _, hl, hm, hz, _, hcell, hwz⟩
  · simp [Value.cells] at hcs
    obtain ⟨rfl, rfl, rfl⟩ := hcs
    exact ⟨none, 0, 0, [], rfl, rfl, Nat.le_refl _, by unfold maxLen; omega, Rd.zero _ _ _ _, by simp⟩
  · simp [Value.cells] at hcs
    obtain ⟨rfl, rfl, rfl⟩ := hcs
    simp at hz
    refine ⟨some x, n, c, zs.take n, rfl, by rw [List.length_take]; omega, hl, hm, ?_, fun y hy => hwz y (List.mem_of_mem_take hy)⟩
    refine rd_cells (by omega) fun i hi => ?_
    rw [hcell i (by omega)]
    simp [List.getElem?_take, show i < n by omega]
theorem arg_strs {t e : TypeId} {v : Value} {d : DataW H} {p : List MemPlace} (ht : P.underlying t = some (.slice e)) (he : P.underlying e = some .string) (hc : P.cellsOf e = 1)
    (hv : Value.okWide P w r b0 t v) (h : DataW.Trod enc P w 0 (fun _ => true) held t v d p) :
    ∃ (a : Option Addr) (n c : Nat) (z : List ByteArray), v = .slice a n c ∧ z.length = n ∧ n ≤ c ∧ c ≤ maxLen ∧ Rd w a n 1 (fun i => .string (z.getD i ByteArray.empty)) ∧ ∀ x ∈ z, x.size ≤ maxLen := by
  obtain ⟨a, n, c, rfl⟩ := okWide_slice ht hv
  obtain ⟨fuel, hf⟩ := h
  rcases open_strings ht he hc hf with ⟨hcs, _⟩ | ⟨x, l, c', zs, hcs, _, hl, hm, hz, _, hcell, hwz⟩
  · simp [Value.cells] at hcs
    obtain ⟨rfl, rfl, rfl⟩ := hcs
    exact ⟨none, 0, 0, [], rfl, rfl, Nat.le_refl _, by unfold maxLen; omega, Rd.zero _ _ _ _, by simp⟩
  · simp [Value.cells] at hcs
    obtain ⟨rfl, rfl, rfl⟩ := hcs
    simp at hz
    refine ⟨some x, n, c, zs.take n, rfl, by rw [List.length_take]; omega, hl, hm, ?_, fun y hy => hwz y (List.mem_of_mem_take hy)⟩
    refine rd_cells (by omega) fun i hi => ?_
    rw [hcell i (by omega)]
    simp [List.getElem?_take, show i < n by omega]
end
end Go.Proofs.YteebghoijaaakaaGreat
/- The first walks of layer 27: whether a number is a sensor, whether a set has it, whether it has sensors alone; and the reference's. By the prover of this repo. -/
namespace Go.Proofs.YteebghoijaaakaaGreat
open Go.RowKit

theorem toNat_u64 (a : Nat) (ha : a < 18446744073709551616) : (BitVec.ofInt 64 (a : Int)).toNat = a := by
  rw [BitVec.ofInt_natCast, BitVec.toNat_ofNat]
  exact Nat.mod_eq_of_lt (by omega)
theorem and_u64 (a b : Nat) (ha : a < 18446744073709551616) (hb : b < 18446744073709551616) : bits .and .u64 (a : Int) (b : Int) = ((a &&& b : Nat) : Int) := by
  have hx : a &&& b < 2 ^ 64 := Nat.and_lt_two_pow _ (by omega)
  have e : (BitVec.ofInt 64 (a : Int) &&& BitVec.ofInt 64 (b : Int)).toNat = a &&& b := by rw [BitVec.toNat_and, toNat_u64 a ha, toNat_u64 b hb]
  show IntKind.u64.wrap ((BitVec.ofInt 64 (a : Int) &&& BitVec.ofInt 64 (b : Int)).toNat : Int) = _
  rw [e, IntKind.wrap_u64]
  omega
theorem and_one64 (x : Int) (h0 : 0 ≤ x) (h1 : x < 18446744073709551616) : bits .and .u64 x 1 = x % 2 := by
  obtain ⟨n, rfl⟩ := Int.eq_ofNat_of_zero_le h0
  have := and_u64 n 1 (by omega) (by omega)
  rw [show ((1 : Nat) : Int) = 1 from rfl] at this
  rw [this, Nat.and_one_is_mod]
  omega

theorem beq_dec (a b : Int) : (a == b) = decide (a = b) := by rw [Bool.eq_iff_iff]; simp
/-- Whether a set has a sensor. -/
def hasF (s i : Int) : Bool := decide (0 ≤ i ∧ i < 48 ∧ s / 2 ^ i.toNat % 2 = 1)

theorem crew_is (i : Int) (w : World) : Calls Tryz.prog 163 #[.int .i64 i] w fun e w' => e = .returned (.bool (decide (0 ≤ i ∧ i < 48))) ∧ w = w' := by
  by_cases h0 : 0 ≤ i
  · by_cases h1 : i < 48
    · rw [decide_eq_true ⟨h0, h1⟩]
      go_enter Tryz.func163, Tryz.ntmps163
      go_wp2_with fail
      go_ret
      exact ⟨rfl, rfl⟩
    · rw [decide_eq_false (fun h => h1 h.2)]
      go_enter Tryz.func163, Tryz.ntmps163
      go_wp2_with fail
      go_ret
      exact ⟨rfl, rfl⟩
  · rw [decide_eq_false (fun h => h0 h.1)]
    go_enter Tryz.func163, Tryz.ntmps163
    go_wp2_with fail
    go_ret
    exact ⟨rfl, rfl⟩
theorem crew_right (s : Int) (w : World) : Calls Tryz.prog 116 #[.int .u64 s] w fun e w' => e = .returned (.bool (decide (s < 281474976710656))) ∧ w = w' := by
  by_cases h : s < 281474976710656
  · rw [decide_eq_true h]
    go_enter Tryz.func116, Tryz.ntmps116
    go_wp2_with fail
    go_ret
    exact ⟨ret_congr (bool_true (by omega)), rfl⟩
  · rw [decide_eq_false h]
    go_enter Tryz.func116, Tryz.ntmps116
    go_wp2_with fail
    go_ret
    exact ⟨ret_congr (bool_false (by omega)), rfl⟩

theorem pow_i (k : Nat) : (2 : Int) ^ k = ((2 ^ k : Nat) : Int) := by simp
theorem crew_has (s i : Int) (w : World) (h0 : 0 ≤ s) (h1 : s < 18446744073709551616) : Calls Tryz.prog 162 #[.int .u64 s, .int .i64 i] w fun e w' => e = .returned (.bool (hasF s i)) ∧ w = w' := by
  by_cases h : 0 ≤ i ∧ i < 48
  · obtain ⟨h2, h3⟩ := h
    have hb : bits .and .u64 (s / 2 ^ i.toNat) 1 = s / 2 ^ i.toNat % 2 := by
      have hp : (1 : Int) ≤ 2 ^ i.toNat := by rw [pow_i]; have := Nat.one_le_two_pow (n := i.toNat); omega
      exact and_one64 _ (Int.ediv_nonneg h0 (by omega)) (by have := Int.ediv_le_self (2 ^ i.toNat) h0; omega)
    have hF : hasF s i = decide (s / 2 ^ i.toNat % 2 = 1) := by unfold hasF; simp [h2, h3]
    go_enter Tryz.func162, Tryz.ntmps162
    go_wp2_with (go_at_call 163; refine (crew_is i _).mono ?_; rw [decide_eq_true ⟨h2, h3⟩]; rintro e w1 ⟨rfl, rfl⟩)
    go_ret
    refine ⟨ret_congr ?_, rfl⟩
    rw [hF]
    exact bool_congr (beq_dec _ _)
  · have hF : hasF s i = false := by unfold hasF; exact decide_eq_false fun h2 => h ⟨h2.1, h2.2.1⟩
    rw [hF]
    go_enter Tryz.func162, Tryz.ntmps162
    go_wp2_with (go_at_call 163; refine (crew_is i _).mono ?_; rw [decide_eq_false h]; rintro e w1 ⟨rfl, rfl⟩)
    go_ret
    exact ⟨rfl, rfl⟩

end Go.Proofs.YteebghoijaaakaaGreat
/- The walks of layer 29: whether a letter is right, and the reference's. By the prover of this repo. -/
namespace Go.Proofs.YteebghoijaaakaaGreat
open Go.RowKit

/-- A letter: its epoch, its sensor, whose readings, its body. -/
structure Let where
  ep : Int
  fr : Int
  co : Int
  body : ByteArray
/-- Its parts in their types' bounds. -/
structure Let.Wf (x : Let) : Prop where
  e0 : -9223372036854775808 ≤ x.ep
  e1 : x.ep ≤ 9223372036854775807
  f0 : -9223372036854775808 ≤ x.fr
  f1 : x.fr ≤ 9223372036854775807
  c0 : 0 ≤ x.co
  c1 : x.co < 18446744073709551616
  b1 : x.body.size ≤ 9223372036854775807
abbrev lv (x : Let) : Value := .agg #[.int .i64 x.ep, .int .i64 x.fr, .int .u64 x.co, .string x.body]
/-- Whether it is right. -/
def rightF (x : Let) : Bool := decide (0 ≤ x.ep) && (hasF x.co x.fr && (decide (x.co < 281474976710656) && decide (x.body.size ≤ 1048576)))

set_option maxRecDepth 100000 in
theorem letter_right (x : Let) (h : x.Wf) (w : World) : Calls Tryz.prog 108 #[lv x] w fun e w' => e = .returned (.bool (rightF x)) ∧ Below w.heap.size w w' := by
  obtain ⟨ep, fr, co, body⟩ := x
  obtain ⟨h1, h2, h3, h4, h5, h6, h7⟩ := h
  simp only at h1 h2 h3 h4 h5 h6 h7
  have hH := fun W => crew_has co fr W h5 h6
  have hR := fun W => crew_right co W
  unfold rightF
  simp only
  generalize hasF co fr = A at hH
  obtain ⟨B, hB⟩ : ∃ B, decide (co < 281474976710656) = B := ⟨_, rfl⟩
  rw [hB] at hR ⊢
  replace hH := hide hH
  replace hR := hide hR
  clear hB
  by_cases e0 : 0 ≤ ep
  · cases A
    · go_enter Tryz.func108, Tryz.ntmps108
      go_wp2_with (go_at_call 162; refine (hH.out _).mono ?_; rintro e w1 ⟨rfl, rfl⟩)
      go_ret
      exact ⟨by simp [e0], balloc0 _ _⟩
    · cases B
      · go_enter Tryz.func108, Tryz.ntmps108
        go_wp2_with (first | (go_at_call 162; refine (hH.out _).mono ?_; rintro e w1 ⟨rfl, rfl⟩) | (go_at_call 116; refine (hR.out _).mono ?_; rintro e w1 ⟨rfl, rfl⟩))
        go_ret
        exact ⟨by simp [e0], balloc0 _ _⟩
      · go_enter Tryz.func108, Tryz.ntmps108
        go_wp2_with (first | (go_at_call 162; refine (hH.out _).mono ?_; rintro e w1 ⟨rfl, rfl⟩) | (go_at_call 116; refine (hR.out _).mono ?_; rintro e w1 ⟨rfl, rfl⟩))
        go_ret
        refine ⟨ret_congr (bool_congr ?_), balloc0 _ _⟩
        simp [e0]
        try omega
  · go_enter Tryz.func108, Tryz.ntmps108
    go_wp2_with fail
    go_ret
    exact ⟨by simp; intro h; omega, balloc0 _ _⟩

theorem has_is {s i : Int} (h : ¬ (0 ≤ i ∧ i < 48)) : hasF s i = false := decide_eq_false fun k => h ⟨k.1, k.2.1⟩

end Go.Proofs.YteebghoijaaakaaGreat
/- The walks of layer 27, on: a sensor's bit, a set with it and without it, the set of any numbers. By the prover of this repo. -/
namespace Go.Proofs.YteebghoijaaakaaGreat
open Go.RowKit

/-- A number is what stands above a bit, the bit, and what stands below. -/
theorem bit_split (s i : Nat) : s = 2 ^ (i + 1) * (s / 2 ^ (i + 1)) + (2 ^ i * (s / 2 ^ i % 2) + s % 2 ^ i) := by
  have h1 : s = 2 ^ i * (s / 2 ^ i) + s % 2 ^ i := (Nat.div_add_mod s (2 ^ i)).symm
  have h2 : s / 2 ^ i = 2 * (s / 2 ^ i / 2) + s / 2 ^ i % 2 := (Nat.div_add_mod _ 2).symm
  have h3 : s / 2 ^ i / 2 = s / 2 ^ (i + 1) := by rw [Nat.div_div_eq_div_mul, Nat.pow_succ]
  rw [h3] at h2
  rw [← Nat.add_assoc, Nat.pow_succ, Nat.mul_assoc, ← Nat.mul_add, show 2 * (s / (2 ^ i * 2)) + s / 2 ^ i % 2 = s / 2 ^ i by rw [← Nat.pow_succ]; exact h2.symm]
  exact h1
theorem or_bit (s i : Nat) : s ||| 2 ^ i = if s / 2 ^ i % 2 = 1 then s else s + 2 ^ i := by
  by_cases h : s / 2 ^ i % 2 = 1
  · rw [if_pos h]
    refine Nat.eq_of_testBit_eq fun j => ?_
    rw [Nat.testBit_or, Nat.testBit_two_pow]
    by_cases hj : i = j
    · subst hj
      have : s.testBit i = true := by rw [Nat.testBit_eq_decide_div_mod_eq]; simpa using h
      simp [this]
    · simp [hj]
  · have h0 : s / 2 ^ i % 2 = 0 := by omega
    rw [if_neg h]
    have hs := bit_split s i
    rw [h0, Nat.mul_zero, Nat.zero_add] at hs
    have hr : s % 2 ^ i < 2 ^ i := Nat.mod_lt _ (Nat.two_pow_pos i)
    generalize s % 2 ^ i = r at hs hr
    generalize s / 2 ^ (i + 1) = q at hs
    have hp : 2 ^ i + r < 2 ^ (i + 1) := by rw [Nat.pow_succ]; omega
    have hr2 : r < 2 ^ (i + 1) := by omega
    have e1 := Nat.two_pow_add_eq_or_of_lt hr 1
    rw [Nat.mul_one] at e1
    have e2 := Nat.two_pow_add_eq_or_of_lt hp q
    have e3 := Nat.two_pow_add_eq_or_of_lt hr2 q
    have e4 : s + 2 ^ i = 2 ^ (i + 1) * q + (2 ^ i + r) := by omega
    rw [e4, e2, e1, hs, e3, Nat.or_assoc, Nat.or_comm r]

/-- Whether a natural number has a bit, as hasF says it. -/
theorem has_nat (s : Nat) (i : Int) (h0 : 0 ≤ i) (h1 : i < 48) : hasF (s : Int) i = s.testBit i.toNat := by
  unfold hasF
  rw [Nat.testBit_eq_decide_div_mod_eq, pow_i]
  rw [Bool.eq_iff_iff, decide_eq_true_eq, decide_eq_true_eq]
  constructor
  · intro h; omega
  · intro h; exact ⟨h0, h1, by omega⟩

/-- A sensor's bit. -/
def oneF (i : Int) : Int := if 0 ≤ i ∧ i < 48 then 2 ^ i.toNat else 0
/-- A set with a sensor, and without it. -/
def withF (s i : Int) : Int := if (0 ≤ i ∧ i < 48) ∧ hasF s i = false then s + 2 ^ i.toNat else s
def lessF (s i : Int) : Int := if hasF s i = true then s - 2 ^ i.toNat else s

theorem or_u64 (a b : Nat) (ha : a < 18446744073709551616) (hb : b < 18446744073709551616) : bits .or .u64 (a : Int) (b : Int) = ((a ||| b : Nat) : Int) := by
  have hx : a ||| b < 2 ^ 64 := Nat.or_lt_two_pow (by omega) (by omega)
  have e : (BitVec.ofInt 64 (a : Int) ||| BitVec.ofInt 64 (b : Int)).toNat = a ||| b := by rw [BitVec.toNat_or, toNat_u64 a ha, toNat_u64 b hb]
  show IntKind.u64.wrap ((BitVec.ofInt 64 (a : Int) ||| BitVec.ofInt 64 (b : Int)).toNat : Int) = _
  rw [e, IntKind.wrap_u64]
  omega

theorem pow48 (i : Int) (h1 : i < 48) : (2 : Nat) ^ i.toNat ≤ 140737488355328 := by
  have : (2 : Nat) ^ i.toNat ≤ 2 ^ 47 := Nat.pow_le_pow_right (by omega) (by omega)
  rwa [show (2 : Nat) ^ 47 = 140737488355328 from rfl] at this
theorem one_bd (i : Int) : 0 ≤ oneF i ∧ oneF i ≤ 140737488355328 := by
  unfold oneF
  split
  · rename_i h
    have := pow48 i h.2
    rw [pow_i]
    have h0 := Nat.two_pow_pos i.toNat
    generalize 2 ^ i.toNat = p at *
    omega
  · omega
theorem crew_one (i : Int) (w : World) : Calls Tryz.prog 109 #[.int .i64 i] w fun e w' => e = .returned (.int .u64 (oneF i)) ∧ w = w' := by
  unfold oneF
  by_cases h : 0 ≤ i ∧ i < 48
  · obtain ⟨h2, h3⟩ := h
    rw [if_pos ⟨h2, h3⟩]
    have hp := pow48 i h3
    have hw : IntKind.u64.wrap (2 ^ i.toNat) = 2 ^ i.toNat := by rw [pow_i, IntKind.wrap_u64]; generalize 2 ^ i.toNat = p at *; omega
    replace hw := hide hw
    clear hp
    go_enter Tryz.func109, Tryz.ntmps109
    go_wp2_with (go_at_call 163; refine (crew_is i _).mono ?_; rw [decide_eq_true ⟨h2, h3⟩]; rintro e w1 ⟨rfl, rfl⟩)
    go_ret
    refine ⟨ret_congr (int_congr ?_), rfl⟩
    have := hw.out
    simpa using this
  · rw [if_neg h]
    go_enter Tryz.func109, Tryz.ntmps109
    go_wp2_with (go_at_call 163; refine (crew_is i _).mono ?_; rw [decide_eq_false h]; rintro e w1 ⟨rfl, rfl⟩)
    go_ret
    exact ⟨rfl, rfl⟩
theorem with_bits (s i : Int) (h0 : 0 ≤ s) (h1 : s < 18446744073709551616) : bits .or .u64 s (oneF i) = withF s i := by
  obtain ⟨n, rfl⟩ := Int.eq_ofNat_of_zero_le h0
  unfold oneF withF
  by_cases h : 0 ≤ i ∧ i < 48
  · rw [if_pos h, pow_i, or_u64 _ _ (by omega) (by have := pow48 i h.2; omega), or_bit, has_nat n i h.1 h.2, Nat.testBit_eq_decide_div_mod_eq]
    by_cases hb : n / 2 ^ i.toNat % 2 = 1
    · rw [if_pos hb, if_neg (by simp [hb])]
    · rw [if_neg hb, if_pos ⟨h, by simp [hb]⟩]; omega
  · rw [if_neg h, if_neg (fun k => h k.1)]
    have := or_u64 n 0 (by omega) (by omega)
    rw [show ((0 : Nat) : Int) = 0 from rfl] at this
    rw [this, Nat.or_zero]
theorem crew_with (s i : Int) (w : World) (h0 : 0 ≤ s) (h1 : s < 18446744073709551616) : Calls Tryz.prog 64 #[.int .u64 s, .int .i64 i] w fun e w' => e = .returned (.int .u64 (withF s i)) ∧ w = w' := by
  have hb := with_bits s i h0 h1
  have h2 := one_bd i
  have hO := fun W => crew_one i W
  generalize oneF i = o at hb h2 hO
  replace hb := hide hb
  replace hO := hide hO
  go_enter Tryz.func64, Tryz.ntmps64
  go_wp2_with (go_at_call 109; refine (hO.out _).mono ?_; rintro e w1 ⟨rfl, rfl⟩)
  go_ret
  exact ⟨ret_congr (int_congr hb.out), rfl⟩

theorem with_bd (s i : Int) (h0 : 0 ≤ s) (h1 : s < 18446744073709551616) : 0 ≤ withF s i ∧ withF s i < 18446744073709551616 := by
  rw [← with_bits s i h0 h1]
  obtain ⟨n, rfl⟩ := Int.eq_ofNat_of_zero_le h0
  have h2 := one_bd i
  obtain ⟨m, hm⟩ := Int.eq_ofNat_of_zero_le h2.1
  rw [hm] at h2 ⊢
  rw [or_u64 n m (by omega) (by omega)]
  have : n ||| m < 2 ^ 64 := Nat.or_lt_two_pow (by omega) (by omega)
  omega

/-- Whether all of a set are in another one. -/
def withinF (s t : Int) : Bool := bits .andNot .u64 s t == 0
theorem crew_within (s t : Int) (w : World) : Calls Tryz.prog 117 #[.int .u64 s, .int .u64 t] w fun e w' => e = .returned (.bool (withinF s t)) ∧ w = w' := by
  go_enter Tryz.func117, Tryz.ntmps117
  go_wp2
  go_ret
  exact ⟨rfl, rfl⟩

/-- The set of any numbers, and whether all are sensors. -/
def ofGo (s : Int) : List Int → Int × Bool
  | [] => (s, true)
  | i :: l => if 0 ≤ i ∧ i < 48 then ofGo (withF s i) l else (0, false)
def ofF (l : List Int) : Int × Bool := ofGo 0 l

set_option maxRecDepth 100000 in
theorem crew_of (a : Option Addr) (n c : Nat) (l : List Int) (w : World) (hl : l.length = n) (hr : Rd w a n 1 (fun i => .int .i64 (l.getD i 0))) (hn : n ≤ 1000000) :
    Calls Tryz.prog 115 #[.slice a n c] w fun e w' => e = .returned (.tuple #[.int .u64 (ofF l).1, .bool (ofF l).2]) ∧ w = w' := by
  unfold ofF
  generalize hG : ofGo 0 l = G
  replace hG := hide hG
  replace hl := hide hl
  go_enter Tryz.func115, Tryz.ntmps115
  go_wp2_with fail
  go_loop [4, 9] (fun s k => ∃ (t : Int) (i : Nat), i ≤ n ∧ 0 ≤ t ∧ t < 18446744073709551616 ∧ s = .int .u64 t ∧ k = .int .i64 i ∧ Hid (ofGo t (l.drop i) = G)) (fun _ k => n - (intOf k).toNat)
  case atStart => exact ⟨0, 0, by omega, by omega, by omega, rfl, rfl, by show _ = _; rw [List.drop_zero, hG.out]⟩
  case round =>
    obtain ⟨t, i, hi, ht0, ht1, rfl, rfl, hgo⟩ := hrel
    by_cases hlt : i < n
    · obtain ⟨b, off, rfl, hb, hc⟩ := hr (by omega)
      have hc1 : w.cell? ⟨b, off + i, none⟩ = some (.int .i64 (l.getD i 0)) := hc i (by omega)
      have hdrop : l.drop i = l.getD i 0 :: l.drop (i + 1) := by
        have h2 : i < l.length := by rw [hl.out]; exact hlt
        rw [List.drop_eq_getElem_cons h2]
        simp [h2]
      rw [hdrop] at hgo
      clear hdrop hc
      generalize l.getD i 0 = x at hc1 hgo
      by_cases hx : 0 ≤ x ∧ x < 48
      · have hgo2 : Hid (ofGo (withF t x) (l.drop (i + 1)) = G) := by rw [← hgo.out]; show _ = ofGo t (_ :: _); rw [ofGo, if_pos hx]
        have hbd := with_bd t x ht0 ht1
        have hW := fun W => crew_with t x W ht0 ht1
        generalize withF t x = t2 at hgo2 hbd hW
        replace hW := hide hW
        have hI := fun W => crew_is x W
        rw [decide_eq_true hx] at hI
        replace hI := hide hI
        obtain ⟨hx0, hx1⟩ := hx
        go_wp2_with (first | (go_at_call 163; refine (hI.out _).mono ?_; rintro e w1 ⟨rfl, rfl⟩) | (go_at_call 64; refine (hW.out _).mono ?_; rintro e w1 ⟨rfl, rfl⟩))
        go_round
        case rel => exact ⟨t2, i + 1, by omega, by omega, by omega, rfl, by go_num, hgo2⟩
        case measure => simp [intOf]; omega
      · have hres : Hid ((0, false) = G) := by rw [← hgo.out]; show _ = ofGo t (_ :: _); rw [ofGo, if_neg hx]
        have hI := fun W => crew_is x W
        rw [decide_eq_false hx] at hI
        replace hI := hide hI
        clear hx
        go_wp2_with (go_at_call 163; refine (hI.out _).mono ?_; rintro e w1 ⟨rfl, rfl⟩)
        go_ret2
        exact ⟨by rw [← hres.out]; rfl, rfl⟩
    · have hres : Hid ((t, true) = G) := by rw [← hgo.out, List.drop_of_length_le (by rw [hl.out]; omega)]; rfl
      go_wp2_with fail
      go_ret2
      exact ⟨by rw [← hres.out]; rfl, rfl⟩
end Go.Proofs.YteebghoijaaakaaGreat

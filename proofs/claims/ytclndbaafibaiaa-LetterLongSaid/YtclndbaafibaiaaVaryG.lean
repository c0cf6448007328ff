/- The walks of layer 22, on: Get and the reference's. By the prover of this repo. -/
import Derived.Test.YtclndbaafibaiaaVaryW2
import Derived.Test.YtclndbaafibaiaaBits
import Derived.WalkMore
namespace Go.Proofs.Ytclndbaafibaiaa
open Go.RowKit
open VaryM

theorem or_at (m k x : Nat) (hm : m < 128 ^ k) (hx : x < 128) (hk : k ≤ 8) : bits .or .i64 (m : Int) ((x * 128 ^ k : Nat) : Int) = ((m + x * 128 ^ k : Nat) : Int) := by
  have e : 128 ^ k = 2 ^ (7 * k) := by rw [Nat.pow_mul]
  have hp : 128 ^ k ≤ 128 ^ 8 := Nat.pow_le_pow_right (by omega) hk
  have h2 : x * 128 ^ k ≤ 127 * 128 ^ 8 := Nat.mul_le_mul (by omega) hp
  have n8 : (128 : Nat) ^ 8 = 72057594037927936 := rfl
  rw [or_i64 _ _ (by omega) (by omega), Nat.or_comm, e, Nat.mul_comm, ← Nat.two_pow_add_eq_or_of_lt (by omega) x, Nat.add_comm]
theorem pow7 (k : Nat) : (2 : Int) ^ ((7 : Int) * (k : Int)).toNat = ((128 ^ k : Nat) : Int) := by
  rw [show ((7 : Int) * (k : Int)).toNat = 7 * k by omega, Int.pow_mul]
  simp
theorem shl7 (k x : Nat) (hx : x < 128) (hk : k ≤ 8) : wrap64 ((x : Int) * 2 ^ (7 * k)) = ((x * 128 ^ k : Nat) : Int) := by
  have hp : 128 ^ k ≤ 128 ^ 8 := Nat.pow_le_pow_right (by omega) hk
  have h2 : x * 128 ^ k ≤ 127 * 128 ^ 8 := Nat.mul_le_mul (by omega) hp
  have n8 : (128 : Nat) ^ 8 = 72057594037927936 := rfl
  have e : (2 : Int) ^ (7 * k) = ((128 ^ k : Nat) : Int) := by rw [Int.pow_mul]; simp
  rw [e, ← Int.natCast_mul]
  unfold wrap64
  omega
theorem and127 (c : UInt8) (h : 128 ≤ c.toNat) : bits .and .u8 (c.toNat : Int) 127 = ((c.toNat - 128 : Nat) : Int) := by
  have hc : c.toNat < 256 := c.toNat_lt
  have := u8_and_nat c.toNat 127 hc (by omega)
  rw [show ((127 : Nat) : Int) = 127 from rfl] at this
  rw [this]
  have h3 : ∀ x : Nat, x < 256 → 128 ≤ x → x &&& 127 = x - 128 := by decide +kernel
  rw [h3 _ hc h]

theorem getGo9 (n p : Nat) (l : List UInt8) : getGo 9 n p l = (0, 0, 10) := by cases l <;> simp [getGo]
theorem getGo_nil {i n p : Nat} (h : i ≠ 9) : getGo i n p [] = (0, 0, 9) := by simp [getGo, h]
theorem getGo_bad {i n p : Nat} {c : UInt8} {r : List UInt8} (h : i ≠ 9) (hc : c.toNat < 128) (hz : 0 < i ∧ c.toNat = 0) : getGo i n p (c :: r) = (0, 0, 10) := by
  simp only [getGo]; rw [if_neg h, if_pos hc, if_pos hz]
theorem getGo_end {i n p : Nat} {c : UInt8} {r : List UInt8} (h : i ≠ 9) (hc : c.toNat < 128) (hz : ¬ (0 < i ∧ c.toNat = 0)) : getGo i n p (c :: r) = (n + c.toNat * p, i + 1, 0) := by
  simp only [getGo]; rw [if_neg h, if_pos hc, if_neg hz]
theorem getGo_on {i n p : Nat} {c : UInt8} {r : List UInt8} (h : i ≠ 9) (hc : ¬ c.toNat < 128) : getGo i n p (c :: r) = getGo (i + 1) (n + (c.toNat - 128) * p) (p * 128) r := by
  simp only [getGo]; rw [if_neg h, if_neg hc]

/-- What a text begins with, as three results. -/
abbrev getV (s : ByteArray) : Value := .tuple #[.int .i64 (get s.data.toList).1, .int .i64 (get s.data.toList).2.1, .int .i64 (get s.data.toList).2.2]

theorem drop_at (s : ByteArray) (k : Nat) (h : k < s.size) : s.data.toList.drop k = s[k] :: s.data.toList.drop (k + 1) := by
  rw [List.drop_eq_getElem_cons (by simpa using h)]; rfl

set_option maxRecDepth 100000 in
set_option maxHeartbeats 400000 in
theorem vary_get_big (s : ByteArray) (w : World) (hs : s.size ≤ 1000000000) :
    Calls Try.prog 32 #[.string s] w fun e w' => e = .returned (getV s) ∧ w = w' := by
  unfold getV
  generalize hG : get s.data.toList = G
  have hG := hide hG
  go_enter Try.func32, Try.ntmps32
  go_wp2_with fail
  go_step3
  go_wp2_with fail
  go_step3
  go_wp2_with fail
  go_loop [2, 5] (fun y x => ∃ k m : Nat, k ≤ 9 ∧ k ≤ s.size ∧ m < 128 ^ k ∧ x = .int .i64 k ∧ y = .int .i64 m ∧ Hid (getGo k m (128 ^ k) (s.data.toList.drop k) = G)) (fun _ x => 9 - (intOf x).toNat)
  case atStart => exact ⟨0, 0, by omega, by omega, by simp, rfl, rfl, hG.out⟩
  case round =>
    obtain ⟨k, m, hk9, hks, hm, rfl, rfl, hgo⟩ := hrel
    by_cases h9 : k = 9
    · subst h9
      have hres : Hid ((0, 0, 10) = G) := by rw [← hgo.out, getGo9]; rfl
      go_wp2_with fail
      go_ret3
      refine ⟨?_, rfl⟩
      rw [← hres.out]; rfl
    by_cases hsz : k = s.size
    · have hres : Hid ((0, 0, 9) = G) := by rw [← hgo.out, hsz, List.drop_of_length_le (by simp), ← hsz, getGo_nil h9]; rfl
      go_wp2_with fail
      go_ret3
      refine ⟨?_, rfl⟩
      rw [← hres.out]; rfl
    have hlt : k < s.size := by omega
    rw [drop_at s k hlt] at hgo
    have hc256 : s[k].toNat < 256 := s[k].toNat_lt
    have hor := hide (fun x hx => or_at m k x hm hx (by omega))
    have hsh := hide (fun x hx => shl7 k x hx (by omega))
    have hpk := Nat.pow_succ (n := 128) (m := k)
    generalize hpp : (128 : Nat) ^ (k + 1) = P1 at hpk
    generalize hPP : (128 : Nat) ^ k = P at hor hsh hm hpk hgo
    have hPP := hide hPP
    have hpp := hide hpp
    by_cases hc : s[k].toNat < 128
    · by_cases hz : 0 < k ∧ s[k].toNat = 0
      · have hres : Hid ((0, 0, 10) = G) := by rw [← hgo.out, getGo_bad h9 hc hz]; rfl
        obtain ⟨hz1, hz2⟩ := hz
        go_wp2_with fail
        go_ret3
        refine ⟨?_, rfl⟩
        rw [← hres.out]; rfl
      · have hres : Hid ((m + s[k].toNat * P, k + 1, 0) = G) := by rw [← hgo.out, getGo_end h9 hc hz]; rfl
        have ho := hor.out s[k].toNat hc
        rw [← hsh.out s[k].toNat hc] at ho
        by_cases hk0 : k = 0
        · subst hk0
          have ho2 : Hid (bits .or .i64 (m : Int) (s[0].toNat : Int) = ((m + s[0].toNat * P : Nat) : Int)) := by
            rw [← ho, show (wrap64 ((s[0].toNat : Int) * 2 ^ (7 * 0))) = (s[0].toNat : Int) by rw [hsh.out _ hc, ← hPP.out]; simp]; rfl
          clear ho
          go_wp2_with fail
          go_ret3
          refine ⟨?_, rfl⟩
          rw [← hres.out]
          exact ret3 (int_congr ho2.out) rfl rfl
        · have hnz : ¬ s[k].toNat = 0 := fun h => hz ⟨by omega, h⟩
          have ho2 := hide ho
          clear ho
          go_wp2_with fail
          go_ret3
          refine ⟨?_, rfl⟩
          rw [← hres.out]
          refine ret3 (int_congr ?_) (int_congr (by simp)) rfl
          exact ho2.out
    · have hgo2 : Hid (getGo (k + 1) (m + (s[k].toNat - 128) * P) P1 (s.data.toList.drop (k + 1)) = G) := by rw [← hgo.out, getGo_on h9 hc, hpk]; rfl
      have ha := and127 s[k] (by omega)
      have ho := hor.out (s[k].toNat - 128) (by omega)
      rw [← hsh.out (s[k].toNat - 128) (by omega)] at ho
      have ho2 := hide ho
      have hm2 : Hid (m + (s[k].toNat - 128) * P < P1) := by
        show _ < _
        have : (s[k].toNat - 128) * P ≤ 127 * P := Nat.mul_le_mul_right _ (by omega)
        omega
      clear ho
      go_wp2_with fail
      go_round
      case rel =>
        refine ⟨k + 1, m + (s[k].toNat - 128) * P, by omega, by omega, by rw [hpp.out]; exact hm2.out, by go_num, int_congr ho2.out, ?_⟩
        rw [hpp.out]; exact hgo2
      case measure => simp [intOf]; omega

set_option maxRecDepth 100000 in
set_option maxHeartbeats 400000 in
theorem ref22_get_big (s : ByteArray) (w : World) (hs : s.size ≤ 1000000000) :
    Calls Try.prog 33 #[.string s] w fun e w' => e = .returned (getV s) ∧ w = w' := by
  unfold getV
  generalize hG : get s.data.toList = G
  have hG := hide hG
  go_enter Try.func33, Try.ntmps33
  go_wp2_with fail
  go_loop [5, 6, 7] (fun y q x => ∃ k m p : Nat, k ≤ 9 ∧ k ≤ s.size ∧ m < 128 ^ k ∧ x = .int .i64 k ∧ y = .int .i64 m ∧ q = .int .i64 p ∧ (k ≤ 8 → p = 128 ^ k) ∧ Hid (getGo k m (128 ^ k) (s.data.toList.drop k) = G)) (fun _ _ x => 9 - (intOf x).toNat)
  case atStart => exact ⟨0, 0, 1, by omega, by omega, by simp, rfl, rfl, rfl, fun _ => rfl, hG.out⟩
  case round =>
    obtain ⟨k, m, p, hk9, hks, hm, rfl, rfl, rfl, hp8, hgo⟩ := hrel
    by_cases h9 : k = 9
    · subst h9
      have hres : Hid ((0, 0, 10) = G) := by rw [← hgo.out, getGo9]; rfl
      go_wp2_with fail
      go_ret3
      refine ⟨?_, rfl⟩
      rw [← hres.out]; rfl
    by_cases hsz : k = s.size
    · have hres : Hid ((0, 0, 9) = G) := by rw [← hgo.out, hsz, List.drop_of_length_le (by simp), ← hsz, getGo_nil h9]; rfl
      go_wp2_with fail
      go_ret3
      refine ⟨?_, rfl⟩
      rw [← hres.out]; rfl
    have hlt : k < s.size := by omega
    rw [drop_at s k hlt] at hgo
    obtain rfl := hp8 (by omega)
    have hc256 : s[k].toNat < 256 := s[k].toNat_lt
    have hPle : 128 ^ k ≤ 128 ^ 8 := Nat.pow_le_pow_right (by omega) (by omega)
    rw [show (128 : Nat) ^ 8 = 72057594037927936 from rfl] at hPle
    have hpk := Nat.pow_succ (n := 128) (m := k)
    have hP1 : k < 8 → 128 ^ (k + 1) ≤ 128 ^ 8 := fun h => Nat.pow_le_pow_right (by omega) (by omega)
    rw [show (128 : Nat) ^ 8 = 72057594037927936 from rfl] at hP1
    generalize hpp : (128 : Nat) ^ (k + 1) = P1 at hpk hP1
    generalize hPP : (128 : Nat) ^ k = P at hPle hm hpk hgo
    have hPP := hide hPP
    have hpp := hide hpp
    clear hp8
    by_cases hc : s[k].toNat < 128
    · by_cases hz : 0 < k ∧ s[k].toNat = 0
      · have hres : Hid ((0, 0, 10) = G) := by rw [← hgo.out, getGo_bad h9 hc hz]; rfl
        obtain ⟨hz1, hz2⟩ := hz
        go_wp2_with fail
        go_ret3
        refine ⟨?_, rfl⟩
        rw [← hres.out]; rfl
      · have hres : Hid ((m + s[k].toNat * P, k + 1, 0) = G) := by rw [← hgo.out, getGo_end h9 hc hz]; rfl
        obtain ⟨X, hX, hX1⟩ : ∃ X : Nat, (s[k].toNat : Int) * (P : Int) = (X : Int) ∧ Hid (X = s[k].toNat * P) := ⟨s[k].toNat * P, by rw [Int.natCast_mul], rfl⟩
        have hX2 : X ≤ 127 * P := by rw [hX1.out]; exact Nat.mul_le_mul_right _ (by omega)
        by_cases hk0 : k = 0
        · subst hk0
          go_wp2_with fail
          go_ret3
          refine ⟨?_, rfl⟩
          rw [← hres.out]
          exact ret3 (int_congr (by rw [← hX1.out]; omega)) rfl rfl
        · have hnz : ¬ s[k].toNat = 0 := fun h => hz ⟨by omega, h⟩
          go_wp2_with fail
          go_ret3
          refine ⟨?_, rfl⟩
          rw [← hres.out]
          exact ret3 (int_congr (by rw [← hX1.out]; omega)) (int_congr (by simp)) rfl
    · have hgo2 : Hid (getGo (k + 1) (m + (s[k].toNat - 128) * P) P1 (s.data.toList.drop (k + 1)) = G) := by rw [← hgo.out, getGo_on h9 hc, hpk]; rfl
      obtain ⟨X, hX, hX1⟩ : ∃ X : Nat, ((s[k].toNat : Int) - 128) * (P : Int) = (X : Int) ∧ Hid (X = (s[k].toNat - 128) * P) := ⟨(s[k].toNat - 128) * P, by rw [Int.natCast_mul, show ((s[k].toNat - 128 : Nat) : Int) = (s[k].toNat : Int) - 128 by omega], rfl⟩
      have hX2 : X ≤ 127 * P := by rw [hX1.out]; exact Nat.mul_le_mul_right _ (by omega)
      have hm2 : Hid (m + (s[k].toNat - 128) * P < P1) := by
        show _ < _
        rw [← hX1.out]
        omega
      by_cases hk8 : k < 8
      · have hP2 := hP1 hk8
        go_wp2_with fail
        go_round
        case rel =>
          refine ⟨k + 1, m + (s[k].toNat - 128) * P, P1, by omega, by omega, by rw [hpp.out]; exact hm2.out, by go_num, int_congr (by rw [← hX1.out]; omega), int_congr (by omega), fun _ => hpp.out.symm, ?_⟩
          rw [hpp.out]; exact hgo2
        case measure => simp [intOf]; omega
      · go_wp2_with fail
        go_round
        case rel =>
          refine ⟨k + 1, m + (s[k].toNat - 128) * P, P, by omega, by omega, by rw [hpp.out]; exact hm2.out, by go_num, int_congr (by rw [← hX1.out]; omega), rfl, fun h => absurd h (by omega), ?_⟩
          rw [hpp.out]; exact hgo2
        case measure => simp [intOf]; omega
theorem vary_get (s : ByteArray) (w : World) (hs : s.size ≤ 100000) : Calls Try.prog 32 #[.string s] w fun e w' => e = .returned (getV s) ∧ w = w' := vary_get_big s w (by omega)
theorem ref22_get (s : ByteArray) (w : World) (hs : s.size ≤ 100000) : Calls Try.prog 33 #[.string s] w fun e w' => e = .returned (getV s) ∧ w = w' := ref22_get_big s w (by omega)
end Go.Proofs.Ytclndbaafibaiaa

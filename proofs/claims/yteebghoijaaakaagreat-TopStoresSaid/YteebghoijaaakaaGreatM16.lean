/- Part 16 of the proof: texts joined by this repo's tools/merge2.py (VaryW VaryW2 VaryG VaryP ShtA). By the prover of this repo. -/
import Derived.Test.YteebghoijaaakaaGreatM3
import Derived.Test.YteebghoijaaakaaGreatM8
import Derived.Test.YteebghoijaaakaaGreatM1
import Derived.WalkMore
set_option linter.unusedVariables false
set_option linter.unusedSimpArgs false
/- The walks of layer 22: each function of the packages vary and dewpondref22, once, by what it computes. By the prover of this repo. -/
namespace Go.Proofs.YteebghoijaaakaaGreat
open Go.RowKit
open VaryM

theorem elU8 : Elem Tryz.prog 71 5 (.int .u8 0) 1 1 := ⟨Tryz.underlying71, by kernel_rfl, rfl, by omega⟩

theorem or128 (k : Nat) (hk : 0 ≤ (k : Int)) : bits .or .u8 ((k : Int) % 256) 128 = ((UInt8.ofNat (128 + k % 128)).toNat : Int) := by
  rw [u8_or _ _ (by omega) (by omega) (by omega) (by omega), UInt8.toNat_ofNat', Nat.mod_eq_of_lt (by omega)]
  have h1 : ((k : Int) % 256).toNat = k % 256 := by omega
  have h2 : (128 : Int).toNat = 128 := rfl
  rw [h1, h2]
  have h3 : ∀ x : Nat, x < 256 → x ||| 128 = 128 + x % 128 := by decide +kernel
  rw [h3 _ (by omega)]
  omega

set_option maxRecDepth 100000 in
set_option maxHeartbeats 400000 in
theorem vary_one (v : Value) (bs : List UInt8) (n : Int) (base : Nat) (w : World) (hown : w.ownsRow base 5 1 v bs.length (bs.map bv)) (hbase : base ≤ w.heap.size) (hl : bs.length ≤ 1000000) (h0 : 0 ≤ n) (h1 : n ≤ 9223372036854775807) :
    Calls Tryz.prog 71 #[v, .int .i64 n] w fun e w' => ∃ v', e = .returned v' ∧ w'.ownsRow base 5 1 v' (bs ++ enc n.toNat).length ((bs ++ enc n.toNat).map bv) ∧ Below base w w' := by
  obtain ⟨m, rfl⟩ := Int.eq_ofNat_of_zero_le h0
  have hlen := enc_len9 (n := m) (by omega)
  go_enter Tryz.func71, Tryz.ntmps71
  go_wp2_with fail
  go_loopw [0, 1] (fun x y wr => ∃ (cs : List UInt8) (k : Nat), y = .int .i64 k ∧ k ≤ m ∧ wr.ownsRow base 5 1 x cs.length (cs.map bv) ∧ Hid (cs ++ enc k = bs ++ enc m) ∧ Below base w wr)
    (fun _ y _ => (intOf y).toNat)
  case atStart => exact ⟨bs, m, rfl, by omega, hown, rfl, Below.refl _ _⟩
  case round =>
    obtain ⟨cs, k, rfl, hk, how, hcs, hbel⟩ := hrel
    have hcl : cs.length ≤ 1000009 := by
      have := congrArg List.length hcs.out
      simp only [List.length_append] at this
      omega
    by_cases hlt : 128 ≤ k
    · obtain ⟨c, hor, hen⟩ : ∃ c : UInt8, bits .or .u8 ((k : Int) % 256) 128 = (c.toNat : Int) ∧ Hid (enc k = c :: enc (k / 128)) := ⟨_, or128 k (by omega), enc_ge hlt⟩
      have hz := hbel.size
      go_wp2_with (at_builtin; refine wpList_app1 elU8 rfl (.tmp 9) (.tmp 13) rfl base _ _ _ [.int .u8 (c.toNat : Int)] 5 rfl how rfl rfl (one1 rfl) (by omega) (by omega) ?_; intro v1 w1 how1 hb1 hg1 hat1)
      have how2 : w1.ownsRow base 5 1 v1 (cs ++ [c]).length ((cs ++ [c]).map bv) := by simpa [bv] using how1
      have hbel2 := hbel.trans hb1
      clear hor how1 hb1 hg1 hat1 how hbel hz
      go_wp2_with fail
      go_roundw
      case rel =>
        refine ⟨cs ++ [c], k / 128, by go_num, by omega, how2, ?_, hbel2⟩
        show _ = _
        rw [← hcs.out, hen.out, List.append_assoc]
        rfl
      case measure => simp [intOf]; omega
    · have hen := hide (enc_lt (show k < 128 by omega))
      obtain ⟨c, hc, hen⟩ : ∃ c : UInt8, (k : Int) = (c.toNat : Int) ∧ Hid (enc k = [c]) := ⟨UInt8.ofNat k, by rw [UInt8.toNat_ofNat', Nat.mod_eq_of_lt (by omega)], hen.out⟩
      have hz := hbel.size
      have hc2 := hide hc
      clear hc
      go_wp2_with (at_builtin; refine wpList_app1 elU8 rfl (.tmp 15) (.tmp 18) rfl base _ _ _ [.int .u8 (k : Int)] 5 rfl how rfl rfl (one1 rfl) (by omega) (by omega) ?_; intro v1 w1 how1 hb1 hg1 hat1)
      have how2 : w1.ownsRow base 5 1 v1 (bs ++ enc m).length ((bs ++ enc m).map bv) := by
        rw [← hcs.out, hen.out]
        rw [hc2.out] at how1
        simpa [bv] using how1
      have hbel2 := hbel.trans hb1
      go_wp2_with fail
      go_ret
      exact ⟨v1, rfl, by simpa using how2, hbel2⟩
end Go.Proofs.YteebghoijaaakaaGreat
/- The walks of layer 22, on: One, Size, Put, and the reference's. By the prover of this repo. -/
namespace Go.Proofs.YteebghoijaaakaaGreat
open Go.RowKit
open VaryM

/-- A number's bytes as a text; the bytes of many. -/
def encStr (n : Int) : ByteArray := ⟨(enc n.toNat).toArray⟩
theorem encStr_list (n : Int) : (encStr n).data.toList = enc n.toNat := rfl
theorem encStr_size (n : Int) : (encStr n).size = (enc n.toNat).length := rfl
def encsStr (f : Nat → Int) (k : Nat) : ByteArray := ⟨(encs f k).toArray⟩
/-- All numbers' bytes, or that one is below 0. -/
def putF (f : Nat → Int) (n : Nat) : ByteArray × Int := if ∀ i, i < n → 0 ≤ f i then (encsStr f n, 0) else (⟨#[]⟩, 2)

theorem own_nil (w : World) (base : Nat) (e : TypeId) (size : Nat) : w.ownsRow base e size (.slice none 0 0) ([] : List UInt8).length (([] : List UInt8).map bv) := World.ownsRow_nil _ _ _ _

end Go.Proofs.YteebghoijaaakaaGreat
/- The walks of layer 22, on: Get and the reference's. By the prover of this repo. -/
namespace Go.Proofs.YteebghoijaaakaaGreat
open Go.RowKit
open VaryM

theorem or_at (m k x : Nat) (hm : m < 128 ^ k) (hx : x < 128) (hk : k ≤ 8) : bits .or .i64 (m : Int) ((x * 128 ^ k : Nat) : Int) = ((m + x * 128 ^ k : Nat) : Int) := by
  have e : 128 ^ k = 2 ^ (7 * k) := by rw [Nat.pow_mul]
  have hp : 128 ^ k ≤ 128 ^ 8 := Nat.pow_le_pow_right (by omega) hk
  have h2 : x * 128 ^ k ≤ 127 * 128 ^ 8 := Nat.mul_le_mul (by omega) hp
  have n8 : (128 : Nat) ^ 8 = 72057594037927936 := rfl
  rw [or_i64 _ _ (by omega) (by omega), Nat.or_comm, e, Nat.mul_comm, ← Nat.two_pow_add_eq_or_of_lt (by omega) x, Nat.add_comm]
theorem pow7 (k : Nat) : (2 : Int) ^ ((7 : Int) * (k : Int)).toNat = ((128 ^ k : Nat) : Int) := by
  rw [show ((7 : Int) * (k : Int)).toNat = 7 * k by omega, Int.pow_mul]
  simp
theorem shl7 (k x : Nat) (hx : x < 128) (hk : k ≤ 8) : wrap64 ((x : Int) * 2 ^ (7 * k)) = ((x * 128 ^ k : Nat) : Int) := by
  have hp : 128 ^ k ≤ 128 ^ 8 := Nat.pow_le_pow_right (by omega) hk
  have h2 : x * 128 ^ k ≤ 127 * 128 ^ 8 := Nat.mul_le_mul (by omega) hp
  have n8 : (128 : Nat) ^ 8 = 72057594037927936 := rfl
  have e : (2 : Int) ^ (7 * k) = ((128 ^ k : Nat) : Int) := by rw [Int.pow_mul]; simp
  rw [e, ← Int.natCast_mul]
  unfold wrap64
  omega
theorem and127 (c : UInt8) (h : 128 ≤ c.toNat) : bits .and .u8 (c.toNat : Int) 127 = ((c.toNat - 128 : Nat) : Int) := by
  have hc : c.toNat < 256 := c.toNat_lt
  have := u8_and_nat c.toNat 127 hc (by omega)
  rw [show ((127 : Nat) : Int) = 127 from rfl] at this
  rw [this]
  have h3 : ∀ x : Nat, x < 256 → 128 ≤ x → x &&& 127 = x - 128 := by decide +kernel
  rw [h3 _ hc h]

theorem getGo9 (n p : Nat) (l : List UInt8) : getGo 9 n p l = (0, 0, 10) := by cases l <;> simp [getGo]
theorem getGo_nil {i n p : Nat} (h : i ≠ 9) : getGo i n p [] = (0, 0, 9) := by simp [getGo, h]
theorem getGo_bad {i n p : Nat} {c : UInt8} {r : List UInt8} (h : i ≠ 9) (hc : c.toNat < 128) (hz : 0 < i ∧ c.toNat = 0) : getGo i n p (c :: r) = (0, 0, 10) := by
  simp only [getGo]; rw [if_neg h, if_pos hc, if_pos hz]
theorem getGo_end {i n p : Nat} {c : UInt8} {r : List UInt8} (h : i ≠ 9) (hc : c.toNat < 128) (hz : ¬ (0 < i ∧ c.toNat = 0)) : getGo i n p (c :: r) = (n + c.toNat * p, i + 1, 0) := by
  simp only [getGo]; rw [if_neg h, if_pos hc, if_neg hz]
theorem getGo_on {i n p : Nat} {c : UInt8} {r : List UInt8} (h : i ≠ 9) (hc : ¬ c.toNat < 128) : getGo i n p (c :: r) = getGo (i + 1) (n + (c.toNat - 128) * p) (p * 128) r := by
  simp only [getGo]; rw [if_neg h, if_neg hc]

/-- What a text begins with, as three results. -/
abbrev getV (s : ByteArray) : Value := .tuple #[.int .i64 (get s.data.toList).1, .int .i64 (get s.data.toList).2.1, .int .i64 (get s.data.toList).2.2]

theorem drop_at (s : ByteArray) (k : Nat) (h : k < s.size) : s.data.toList.drop k = s[k] :: s.data.toList.drop (k + 1) := by
  rw [List.drop_eq_getElem_cons (by simpa using h)]; rfl

set_option maxRecDepth 100000 in
set_option maxHeartbeats 400000 in
theorem vary_get_big (s : ByteArray) (w : World) (hs : s.size ≤ 1000000000) :
    Calls Tryz.prog 114 #[.string s] w fun e w' => e = .returned (getV s) ∧ w = w' := by
  unfold getV
  generalize hG : get s.data.toList = G
  have hG := hide hG
  go_enter Tryz.func114, Tryz.ntmps114
  go_wp2_with fail
  go_step3
  go_wp2_with fail
  go_step3
  go_wp2_with fail
  go_loop [2, 5] (fun y x => ∃ k m : Nat, k ≤ 9 ∧ k ≤ s.size ∧ m < 128 ^ k ∧ x = .int .i64 k ∧ y = .int .i64 m ∧ Hid (getGo k m (128 ^ k) (s.data.toList.drop k) = G)) (fun _ x => 9 - (intOf x).toNat)
  case atStart => exact ⟨0, 0, by omega, by omega, by simp, rfl, rfl, hG.out⟩
  case round =>
    obtain ⟨k, m, hk9, hks, hm, rfl, rfl, hgo⟩ := hrel
    by_cases h9 : k = 9
    · subst h9
      have hres : Hid ((0, 0, 10) = G) := by rw [← hgo.out, getGo9]; rfl
      go_wp2_with fail
      go_ret3
      refine ⟨?_, rfl⟩
      rw [← hres.out]; rfl
    by_cases hsz : k = s.size
    · have hres : Hid ((0, 0, 9) = G) := by rw [← hgo.out, hsz, List.drop_of_length_le (by simp), ← hsz, getGo_nil h9]; rfl
      go_wp2_with fail
      go_ret3
      refine ⟨?_, rfl⟩
      rw [← hres.out]; rfl
    have hlt : k < s.size := by omega
    rw [drop_at s k hlt] at hgo
    have hc256 : s[k].toNat < 256 := s[k].toNat_lt
    have hor := hide (fun x hx => or_at m k x hm hx (by omega))
    have hsh := hide (fun x hx => shl7 k x hx (by omega))
    have hpk := Nat.pow_succ (n := 128) (m := k)
    generalize hpp : (128 : Nat) ^ (k + 1) = P1 at hpk
    generalize hPP : (128 : Nat) ^ k = P at hor hsh hm hpk hgo
    have hPP := hide hPP
    have hpp := hide hpp
    by_cases hc : s[k].toNat < 128
    · by_cases hz : 0 < k ∧ s[k].toNat = 0
      · have hres : Hid ((0, 0, 10) = G) := by rw [← hgo.out, getGo_bad h9 hc hz]; rfl
        obtain ⟨hz1, hz2⟩ := hz
        go_wp2_with fail
        go_ret3
        refine ⟨?_, rfl⟩
        rw [← hres.out]; rfl
      · have hres : Hid ((m + s[k].toNat * P, k + 1, 0) = G) := by rw [← hgo.out, getGo_end h9 hc hz]; rfl
        have ho := hor.out s[k].toNat hc
        rw [← hsh.out s[k].toNat hc] at ho
        by_cases hk0 : k = 0
        · subst hk0
          have ho2 : Hid (bits .or .i64 (m : Int) (s[0].toNat : Int) = ((m + s[0].toNat * P : Nat) : Int)) := by
            rw [← ho, show (wrap64 ((s[0].toNat : Int) * 2 ^ (7 * 0))) = (s[0].toNat : Int) by rw [hsh.out _ hc, ← hPP.out]; simp]; rfl
          clear ho
          go_wp2_with fail
          go_ret3
          refine ⟨?_, rfl⟩
          rw [← hres.out]
          exact ret3 (int_congr ho2.out) rfl rfl
        · have hnz : ¬ s[k].toNat = 0 := fun h => hz ⟨by omega, h⟩
          have ho2 := hide ho
          clear ho
          go_wp2_with fail
          go_ret3
          refine ⟨?_, rfl⟩
          rw [← hres.out]
          refine ret3 (int_congr ?_) (int_congr (by simp)) rfl
          exact ho2.out
    · have hgo2 : Hid (getGo (k + 1) (m + (s[k].toNat - 128) * P) P1 (s.data.toList.drop (k + 1)) = G) := by rw [← hgo.out, getGo_on h9 hc, hpk]; rfl
      have ha := and127 s[k] (by omega)
      have ho := hor.out (s[k].toNat - 128) (by omega)
      rw [← hsh.out (s[k].toNat - 128) (by omega)] at ho
      have ho2 := hide ho
      have hm2 : Hid (m + (s[k].toNat - 128) * P < P1) := by
        show _ < _
        have : (s[k].toNat - 128) * P ≤ 127 * P := Nat.mul_le_mul_right _ (by omega)
        omega
      clear ho
      go_wp2_with fail
      go_round
      case rel =>
        refine ⟨k + 1, m + (s[k].toNat - 128) * P, by omega, by omega, by rw [hpp.out]; exact hm2.out, by go_num, int_congr ho2.out, ?_⟩
        rw [hpp.out]; exact hgo2
      case measure => simp [intOf]; omega

theorem vary_get (s : ByteArray) (w : World) (hs : s.size ≤ 100000) : Calls Tryz.prog 114 #[.string s] w fun e w' => e = .returned (getV s) ∧ w = w' := vary_get_big s w (by omega)
end Go.Proofs.YteebghoijaaakaaGreat
/- The walks of layer 22, on: Put, the reference's, and alive. By the prover of this repo. -/
namespace Go.Proofs.YteebghoijaaakaaGreat
open Go.RowKit
open VaryM

theorem putF_neg {f : Nat → Int} {n k : Nat} (hk : k < n) (h : f k < 0) : putF f n = (⟨#[]⟩, 2) := by
  unfold putF; exact if_neg fun h2 => by have := h2 k hk; omega
theorem putF_all {f : Nat → Int} {n : Nat} (h : ∀ i, i < n → 0 ≤ f i) : putF f n = (encsStr f n, 0) := if_pos h
theorem all_succ {f : Nat → Int} {k : Nat} (h : ∀ i, i < k → 0 ≤ f i) (h2 : 0 ≤ f k) : ∀ i, i < k + 1 → 0 ≤ f i := fun i hi => by
  by_cases e : i = k
  · subst e; exact h2
  · exact h i (by omega)

set_option maxRecDepth 100000 in
set_option maxHeartbeats 400000 in
theorem vary_put (a : Option Addr) (n c : Nat) (f : Nat → Int) (w : World) (hr : Rd w a n 1 (fun i => .int .i64 (f i))) (hn : n ≤ 100000) (hf : ∀ i, i < n → f i ≤ 9223372036854775807) :
    Calls Tryz.prog 29 #[.slice a n c] w fun e w' => e = .returned (.tuple #[.string (putF f n).1, .int .i64 (putF f n).2]) ∧ Below w.heap.size w w' := by
  have hlen := hide (fun k (hk : k ≤ n) => encs_len (f := f) k (fun i hi => hf i (by omega)))
  go_enter Tryz.func29, Tryz.ntmps29
  go_wp2_with fail
  go_loopw [4, 9] (fun b i wr => ∃ k : Nat, k ≤ n ∧ i = .int .i64 k ∧ wr.ownsRow w.heap.size 5 1 b (encs f k).length ((encs f k).map bv) ∧ Hid (∀ i, i < k → 0 ≤ f i) ∧ Below w.heap.size w wr)
    (fun _ i _ => n - (intOf i).toNat)
  case atStart => exact ⟨0, by omega, rfl, own_nil _ _ _ _, fun i hi => absurd hi (by omega), Below.refl _ _⟩
  case round =>
    obtain ⟨k, hk, rfl, how, hpos, hbel⟩ := hrel
    have hl := hlen.out k hk
    have hz := hbel.size
    by_cases hlt : k < n
    · obtain ⟨b, off, rfl, hb, hc⟩ := (hr.kept hbel) (by omega)
      have hck := hc k (by omega)
      have hfk := hf k hlt
      clear hc
      by_cases hneg : f k < 0
      · have hres := hide (putF_neg hlt hneg)
        go_wp2_with fail
        go_ret2
        exact ⟨by rw [hres.out]; rfl, hbel⟩
      · go_wp2_with fail
        refine (vary_one _ (encs f k) (f k) w.heap.size _ how hz (by omega) (by omega) hfk).mono ?_
        rintro e w1 ⟨v1, rfl, how1, hb1⟩
        have hbel1 := hbel.trans hb1
        clear how hb1 hck hbel hz
        go_wp2_with fail
        go_roundw
        case rel => exact ⟨k + 1, by omega, by go_num, how1, all_succ hpos.out (by omega), hbel1⟩
        case measure => simp [intOf]; omega
    · obtain rfl : k = n := by omega
      have hres := hide (putF_all hpos.out)
      have hcv := own_text (P := Tryz.prog) 71 9 Tryz.underlying71 Tryz.underlying5 Tryz.underlying9 how
      go_wp2_with fail
      go_ret2
      exact ⟨by rw [hres.out]; rfl, hbel⟩

theorem encs_one (f : Nat → Int) (k : Nat) : encsStr f k ++ encStr (f k) = encsStr f (k + 1) := str_ext (by simp [encsStr, encStr, encs])
theorem encsStr_size (f : Nat → Int) (k : Nat) : (encsStr f k).size = (encs f k).length := rfl

end Go.Proofs.YteebghoijaaakaaGreat
/- Numbers that a text begins with: sheet.Number and the reference's. By the prover of this repo. -/
namespace Go.Proofs.YteebghoijaaakaaGreat
namespace SH
open Go.RowKit

/-- The digits that a text begins with, as a number, and how many they are. -/
def numGo : Nat → Nat → List UInt8 → Option (Nat × Nat)
  | n, i, [] => some (n, i)
  | n, i, c :: r => if 48 ≤ c.toNat ∧ c.toNat ≤ 57 then (if 9223372036854775807 < 10 * n + (c.toNat - 48) then none else numGo (10 * n + (c.toNat - 48)) (i + 1) r) else some (n, i)
def numE (l : List UInt8) : Option (Nat × Nat) → Nat × Nat × Bool
  | none => (0, 0, false)
  | some (n, i) => if i = 0 ∨ (1 < i ∧ l.head? = some 48) then (0, 0, false) else (n, i, true)
def numF (l : List UInt8) : Nat × Nat × Bool := numE l (numGo 0 0 l)
theorem numGo_nil (n i : Nat) : numGo n i [] = some (n, i) := by simp [numGo]
theorem numGo_stop {n i : Nat} {c : UInt8} {r : List UInt8} (h : ¬ (48 ≤ c.toNat ∧ c.toNat ≤ 57)) : numGo n i (c :: r) = some (n, i) := by simp only [numGo]; rw [if_neg h]
theorem numGo_over {n i : Nat} {c : UInt8} {r : List UInt8} (h : 48 ≤ c.toNat ∧ c.toNat ≤ 57) (k : 9223372036854775807 < 10 * n + (c.toNat - 48)) : numGo n i (c :: r) = none := by simp only [numGo]; rw [if_pos h, if_pos k]
theorem numGo_on {n i : Nat} {c : UInt8} {r : List UInt8} (h : 48 ≤ c.toNat ∧ c.toNat ≤ 57) (k : ¬ 9223372036854775807 < 10 * n + (c.toNat - 48)) : numGo n i (c :: r) = numGo (10 * n + (c.toNat - 48)) (i + 1) r := by simp only [numGo]; rw [if_pos h, if_neg k]
theorem drop_at (s : ByteArray) (k : Nat) (h : k < s.size) : s.data.toList.drop k = s[k] :: s.data.toList.drop (k + 1) := by
  rw [List.drop_eq_getElem_cons (by simpa using h)]; rfl
theorem head_at (s : ByteArray) (h : 0 < s.size) : s.data.toList.head? = some s[0] := by
  have := drop_at s 0 h
  rw [List.drop_zero] at this
  rw [this]; rfl
theorem u8_48 {c : UInt8} : c = 48 ↔ c.toNat = 48 := ⟨fun h => by rw [h]; rfl, fun h => by rw [← UInt8.toNat_inj, h]; rfl⟩

theorem sheet_digit (c : Nat) (w : World) : Calls Tryz.prog 197 #[.int .u8 c] w fun e w' => e = .returned (.bool (decide (48 ≤ c ∧ c ≤ 57))) ∧ w = w' := by
  by_cases h1 : 48 ≤ c
  · by_cases h2 : c ≤ 57
    · rw [decide_eq_true ⟨h1, h2⟩]
      go_enter Tryz.func197, Tryz.ntmps197
      go_wp2_with fail
      go_ret
      exact ⟨ret_congr (bool_true (by omega)), rfl⟩
    · rw [decide_eq_false (fun k => h2 k.2)]
      go_enter Tryz.func197, Tryz.ntmps197
      go_wp2_with fail
      go_ret
      exact ⟨by first | rfl | exact ret_congr (bool_false (by omega)), rfl⟩
  · rw [decide_eq_false (fun k => h1 k.1)]
    go_enter Tryz.func197, Tryz.ntmps197
    go_wp2_with fail
    go_ret
    exact ⟨by first | rfl | exact ret_congr (bool_false (by omega)), rfl⟩
set_option maxRecDepth 100000 in
set_option maxHeartbeats 400000 in
theorem sheet_number (s : ByteArray) (w : World) (hs : s.size ≤ 1000000000) :
    Calls Tryz.prog 188 #[.string s] w fun e w' => e = .returned (.tuple #[.int .i64 (numF s.data.toList).1, .int .i64 (numF s.data.toList).2.1, .bool (numF s.data.toList).2.2]) ∧ w = w' := by
  have hG : Hid (numE s.data.toList (numGo 0 0 (s.data.toList.drop 0)) = numF s.data.toList) := by show _ = _; rw [List.drop_zero]; rfl
  generalize numF s.data.toList = G at *
  go_enter Tryz.func188, Tryz.ntmps188
  go_wp2_with fail
  go_loop [2, 3] (fun n x => ∃ k m : Nat, k ≤ s.size ∧ m ≤ 9223372036854775807 ∧ n = .int .i64 m ∧ x = .int .i64 k ∧ Hid (numE s.data.toList (numGo m k (s.data.toList.drop k)) = G)) (fun _ x => s.size - (intOf x).toNat)
  case atStart => exact ⟨0, 0, Nat.zero_le _, by omega, rfl, rfl, hG⟩
  case round =>
    clear hG
    obtain ⟨k, m, hk, hm, rfl, rfl, hgo⟩ := hrel
    have hD := hide (fun c W => sheet_digit c W)
    by_cases hlt : k < s.size
    · have hd := drop_at s k hlt
      rw [hd] at hgo
      clear hd
      have hc256 : s[k].toNat < 256 := s[k].toNat_lt
      by_cases hdg : 48 ≤ s[k].toNat ∧ s[k].toNat ≤ 57
      · have hD1 := hide (fun W => hD.out s[k].toNat W)
        rw [decide_eq_true hdg] at hD1
        by_cases hov : 9223372036854775807 < 10 * m + (s[k].toNat - 48)
        · have hres : Hid ((0, 0, false) = G) := by rw [← hgo.out, numGo_over hdg hov]; rfl
          obtain ⟨h1, h2⟩ := hdg
          have hq : (9223372036854775807 - ((s[k].toNat : Int) - 48)) / 10 < m := by omega
          go_wp2_with (go_at_call 197; refine (hD1.out _).mono ?_; rintro e w1 ⟨rfl, rfl⟩)
          go_ret3
          refine ⟨?_, rfl⟩
          rw [← hres.out]; rfl
        · have hgo2 : Hid (numE s.data.toList (numGo (10 * m + (s[k].toNat - 48)) (k + 1) (s.data.toList.drop (k + 1))) = G) := by rw [← hgo.out, numGo_on hdg hov]; rfl
          obtain ⟨h1, h2⟩ := hdg
          have hq : ¬ (9223372036854775807 - ((s[k].toNat : Int) - 48)) / 10 < m := by omega
          go_wp2_with (go_at_call 197; refine (hD1.out _).mono ?_; rintro e w1 ⟨rfl, rfl⟩)
          go_round
          case rel => exact ⟨k + 1, 10 * m + (s[k].toNat - 48), by omega, by omega, int_congr (by omega), by go_num, hgo2⟩
          case measure => simp [intOf]; omega
      · have hD1 := hide (fun W => hD.out s[k].toNat W)
        rw [decide_eq_false hdg] at hD1
        have hgo2 : Hid (numE s.data.toList (some (m, k)) = G) := by rw [← hgo.out, numGo_stop hdg]; rfl
        unfold numE at hgo2
        clear hgo hdg
        by_cases hk0 : k = 0
        · subst hk0
          have hres : Hid ((0, 0, false) = G) := by rw [← hgo2.out]; rfl
          go_wp2_with (go_at_call 197; refine (hD1.out _).mono ?_; rintro e w1 ⟨rfl, rfl⟩)
          go_ret3
          refine ⟨?_, rfl⟩
          rw [← hres.out]; rfl
        · by_cases hz : 1 < k ∧ s[0].toNat = 48
          · have hres : Hid ((0, 0, false) = G) := by rw [← hgo2.out]; simp only []; rw [if_pos (.inr ⟨hz.1, by rw [head_at s (by omega), Option.some_inj, u8_48]; exact hz.2⟩)]; rfl
            obtain ⟨hz1, hz2⟩ := hz
            go_wp2_with (go_at_call 197; refine (hD1.out _).mono ?_; rintro e w1 ⟨rfl, rfl⟩)
            go_ret3
            refine ⟨?_, rfl⟩
            rw [← hres.out]; rfl
          · have hres : Hid ((m, k, true) = G) := by
              rw [← hgo2.out]; simp only []
              rw [if_neg (fun h => by
                rcases h with h | ⟨h, h2⟩
                · exact hk0 h
                · rw [head_at s (by omega), Option.some_inj, u8_48] at h2; exact hz ⟨h, h2⟩)]; rfl
            by_cases hk1 : 1 < k
            · have hz2 : ¬ s[0].toNat = 48 := fun h => hz ⟨hk1, h⟩
              have hb0 : ((k : Int) == 0) = false := by simp; omega
              have hb48 : ((s[0].toNat : Int) == 48) = false := by rw [beq_eq_false_iff_ne]; omega
              clear hz
              go_wp2_with (go_at_call 197; refine (hD1.out _).mono ?_; rintro e w1 ⟨rfl, rfl⟩)
              go_ret3
              refine ⟨?_, rfl⟩
              rw [← hres.out]; rfl
            · have hk2 : ((k : Int) > 1) = False := eq_false (by omega)
              have hk3 : ((1 : Int) < (k : Int)) = False := eq_false (by omega)
              clear hz
              go_wp2_with (go_at_call 197; refine (hD1.out _).mono ?_; rintro e w1 ⟨rfl, rfl⟩)
              go_ret3
              refine ⟨?_, rfl⟩
              rw [← hres.out]; rfl
    · obtain rfl : k = s.size := by omega
      have hgo2 : Hid (numE s.data.toList (some (m, s.size)) = G) := by rw [← hgo.out, List.drop_of_length_le (by simp), numGo_nil]; rfl
      unfold numE at hgo2
      clear hgo
      by_cases hk0 : s.size = 0
      · have hres : Hid ((0, 0, false) = G) := by rw [← hgo2.out]; simp only []; rw [if_pos (.inl hk0)]; rfl
        go_wp2_with fail
        go_ret3
        refine ⟨?_, rfl⟩
        rw [← hres.out]; rfl
      · have hs0 : 0 < s.size := by omega
        by_cases hz : 1 < s.size ∧ s[0].toNat = 48
        · have hres : Hid ((0, 0, false) = G) := by rw [← hgo2.out]; simp only []; rw [if_pos (.inr ⟨hz.1, by rw [head_at s (by omega), Option.some_inj, u8_48]; exact hz.2⟩)]; rfl
          obtain ⟨hz1, hz2⟩ := hz
          go_wp2_with fail
          go_ret3
          refine ⟨?_, rfl⟩
          rw [← hres.out]; rfl
        · have hres : Hid ((m, s.size, true) = G) := by
            rw [← hgo2.out]; simp only []
            rw [if_neg (fun h => by
              rcases h with h | ⟨h, h2⟩
              · exact hk0 h
              · rw [head_at s (by omega), Option.some_inj, u8_48] at h2; exact hz ⟨h, h2⟩)]; rfl
          by_cases hk1 : 1 < s.size
          · have hz2 : ¬ s[0].toNat = 48 := fun h => hz ⟨hk1, h⟩
            have hb0 : ((s.size : Int) == 0) = false := by rw [beq_eq_false_iff_ne]; omega
            have hb48 : ((s[0].toNat : Int) == 48) = false := by rw [beq_eq_false_iff_ne]; omega
            clear hz
            go_wp2_with fail
            go_ret3
            refine ⟨?_, rfl⟩
            rw [← hres.out]; rfl
          · have hk3 : ((1 : Int) < (s.size : Int)) = False := eq_false (by omega)
            clear hz
            go_wp2_with fail
            go_ret3
            refine ⟨?_, rfl⟩
            rw [← hres.out]; rfl
end SH
end Go.Proofs.YteebghoijaaakaaGreat

/- Part 26 of the proof: texts joined by this repo's tools/merge.py (VaryW VaryW2 VaryG VaryA VaryF VaryP VaryR VaryS VaryK VaryL VaryH VaryC). By the prover of this repo. -/
import Derived.Test.YtfjgpjgphdiliaaGreatM6
import Derived.Test.YtfjgpjgphdiliaaGreatM25
import Derived.WalkMore
import Derived.Test.YtfjgpjgphdiliaaGreatM1
import Derived.Test.YtfjgpjgphdiliaaGreatRows
set_option linter.unusedVariables false
set_option linter.unusedSimpArgs false
/- The walks of layer 22: each function of the packages vary and dewpondref22, once, by what it computes. By the prover of this repo. -/
namespace Go.Proofs.YtfjgpjgphdiliaaGreat
open Go.RowKit
open VaryM

theorem elU8 : Elem Tryz.prog 80 5 (.int .u8 0) 1 1 := ⟨Tryz.underlying80, by kernel_rfl, rfl, by omega⟩

theorem or128 (k : Nat) (hk : 0 ≤ (k : Int)) : bits .or .u8 ((k : Int) % 256) 128 = ((UInt8.ofNat (128 + k % 128)).toNat : Int) := by
  rw [u8_or _ _ (by omega) (by omega) (by omega) (by omega), UInt8.toNat_ofNat', Nat.mod_eq_of_lt (by omega)]
  have h1 : ((k : Int) % 256).toNat = k % 256 := by omega
  have h2 : (128 : Int).toNat = 128 := rfl
  rw [h1, h2]
  have h3 : ∀ x : Nat, x < 256 → x ||| 128 = 128 + x % 128 := by decide +kernel
  rw [h3 _ (by omega)]
  omega

set_option maxRecDepth 100000 in
set_option maxHeartbeats 400000 in
theorem vary_one (v : Value) (bs : List UInt8) (n : Int) (base : Nat) (w : World) (hown : w.ownsRow base 5 1 v bs.length (bs.map bv)) (hbase : base ≤ w.heap.size) (hl : bs.length ≤ 1000000) (h0 : 0 ≤ n) (h1 : n ≤ 9223372036854775807) :
    Calls Tryz.prog 77 #[v, .int .i64 n] w fun e w' => ∃ v', e = .returned v' ∧ w'.ownsRow base 5 1 v' (bs ++ enc n.toNat).length ((bs ++ enc n.toNat).map bv) ∧ Below base w w' := by
  obtain ⟨m, rfl⟩ := Int.eq_ofNat_of_zero_le h0
  have hlen := enc_len9 (n := m) (by omega)
  go_enter Tryz.func77, Tryz.ntmps77
  go_wp2_with fail
  go_loopw [0, 1] (fun x y wr => ∃ (cs : List UInt8) (k : Nat), y = .int .i64 k ∧ k ≤ m ∧ wr.ownsRow base 5 1 x cs.length (cs.map bv) ∧ Hid (cs ++ enc k = bs ++ enc m) ∧ Below base w wr)
    (fun _ y _ => (intOf y).toNat)
  case atStart => exact ⟨bs, m, rfl, by omega, hown, rfl, Below.refl _ _⟩
  case round =>
    obtain ⟨cs, k, rfl, hk, how, hcs, hbel⟩ := hrel
    have hcl : cs.length ≤ 1000009 := by
      have := congrArg List.length hcs.out
      simp only [List.length_append] at this
      omega
    by_cases hlt : 128 ≤ k
    · obtain ⟨c, hor, hen⟩ : ∃ c : UInt8, bits .or .u8 ((k : Int) % 256) 128 = (c.toNat : Int) ∧ Hid (enc k = c :: enc (k / 128)) := ⟨_, or128 k (by omega), enc_ge hlt⟩
      have hz := hbel.size
      go_wp2_with (at_builtin; refine wpList_app1 elU8 rfl (.tmp 9) (.tmp 13) rfl base _ _ _ [.int .u8 (c.toNat : Int)] 5 rfl how rfl rfl (one1 rfl) (by omega) (by omega) ?_; intro v1 w1 how1 hb1 hg1 hat1)
      have how2 : w1.ownsRow base 5 1 v1 (cs ++ [c]).length ((cs ++ [c]).map bv) := by simpa [bv] using how1
      have hbel2 := hbel.trans hb1
      clear hor how1 hb1 hg1 hat1 how hbel hz
      go_wp2_with fail
      go_roundw
      case rel =>
        refine ⟨cs ++ [c], k / 128, by go_num, by omega, how2, ?_, hbel2⟩
        show _ = _
        rw [← hcs.out, hen.out, List.append_assoc]
        rfl
      case measure => simp [intOf]; omega
    · have hen := hide (enc_lt (show k < 128 by omega))
      obtain ⟨c, hc, hen⟩ : ∃ c : UInt8, (k : Int) = (c.toNat : Int) ∧ Hid (enc k = [c]) := ⟨UInt8.ofNat k, by rw [UInt8.toNat_ofNat', Nat.mod_eq_of_lt (by omega)], hen.out⟩
      have hz := hbel.size
      have hc2 := hide hc
      clear hc
      go_wp2_with (at_builtin; refine wpList_app1 elU8 rfl (.tmp 15) (.tmp 18) rfl base _ _ _ [.int .u8 (k : Int)] 5 rfl how rfl rfl (one1 rfl) (by omega) (by omega) ?_; intro v1 w1 how1 hb1 hg1 hat1)
      have how2 : w1.ownsRow base 5 1 v1 (bs ++ enc m).length ((bs ++ enc m).map bv) := by
        rw [← hcs.out, hen.out]
        rw [hc2.out] at how1
        simpa [bv] using how1
      have hbel2 := hbel.trans hb1
      go_wp2_with fail
      go_ret
      exact ⟨v1, rfl, by simpa using how2, hbel2⟩
end Go.Proofs.YtfjgpjgphdiliaaGreat
/- The walks of layer 22, on: One, Size, Put, and the reference's. By the prover of this repo. -/
namespace Go.Proofs.YtfjgpjgphdiliaaGreat
open Go.RowKit
open VaryM

/-- A number's bytes as a text; the bytes of many. -/
def encStr (n : Int) : ByteArray := ⟨(enc n.toNat).toArray⟩
theorem encStr_list (n : Int) : (encStr n).data.toList = enc n.toNat := rfl
theorem encStr_size (n : Int) : (encStr n).size = (enc n.toNat).length := rfl
def encsStr (f : Nat → Int) (k : Nat) : ByteArray := ⟨(encs f k).toArray⟩
/-- All numbers' bytes, or that one is below 0. -/
def putF (f : Nat → Int) (n : Nat) : ByteArray × Int := if ∀ i, i < n → 0 ≤ f i then (encsStr f n, 0) else (⟨#[]⟩, 2)

theorem own_nil (w : World) (base : Nat) (e : TypeId) (size : Nat) : w.ownsRow base e size (.slice none 0 0) ([] : List UInt8).length (([] : List UInt8).map bv) := World.ownsRow_nil _ _ _ _

end Go.Proofs.YtfjgpjgphdiliaaGreat
/- The walks of layer 22, on: Get and the reference's. By the prover of this repo. -/
namespace Go.Proofs.YtfjgpjgphdiliaaGreat
open Go.RowKit
open VaryM

theorem or_at (m k x : Nat) (hm : m < 128 ^ k) (hx : x < 128) (hk : k ≤ 8) : bits .or .i64 (m : Int) ((x * 128 ^ k : Nat) : Int) = ((m + x * 128 ^ k : Nat) : Int) := by
  have e : 128 ^ k = 2 ^ (7 * k) := by rw [Nat.pow_mul]
  have hp : 128 ^ k ≤ 128 ^ 8 := Nat.pow_le_pow_right (by omega) hk
  have h2 : x * 128 ^ k ≤ 127 * 128 ^ 8 := Nat.mul_le_mul (by omega) hp
  have n8 : (128 : Nat) ^ 8 = 72057594037927936 := rfl
  rw [or_i64 _ _ (by omega) (by omega), Nat.or_comm, e, Nat.mul_comm, ← Nat.two_pow_add_eq_or_of_lt (by omega) x, Nat.add_comm]
theorem pow7 (k : Nat) : (2 : Int) ^ ((7 : Int) * (k : Int)).toNat = ((128 ^ k : Nat) : Int) := by
  rw [show ((7 : Int) * (k : Int)).toNat = 7 * k by omega, Int.pow_mul]
  simp
theorem shl7 (k x : Nat) (hx : x < 128) (hk : k ≤ 8) : wrap64 ((x : Int) * 2 ^ (7 * k)) = ((x * 128 ^ k : Nat) : Int) := by
  have hp : 128 ^ k ≤ 128 ^ 8 := Nat.pow_le_pow_right (by omega) hk
  have h2 : x * 128 ^ k ≤ 127 * 128 ^ 8 := Nat.mul_le_mul (by omega) hp
  have n8 : (128 : Nat) ^ 8 = 72057594037927936 := rfl
  have e : (2 : Int) ^ (7 * k) = ((128 ^ k : Nat) : Int) := by rw [Int.pow_mul]; simp
  rw [e, ← Int.natCast_mul]
  unfold wrap64
  omega
theorem and127 (c : UInt8) (h : 128 ≤ c.toNat) : bits .and .u8 (c.toNat : Int) 127 = ((c.toNat - 128 : Nat) : Int) := by
  have hc : c.toNat < 256 := c.toNat_lt
  have := u8_and_nat c.toNat 127 hc (by omega)
  rw [show ((127 : Nat) : Int) = 127 from rfl] at this
  rw [this]
  have h3 : ∀ x : Nat, x < 256 → 128 ≤ x → x &&& 127 = x - 128 := by decide +kernel
  rw [h3 _ hc h]

theorem getGo9 (n p : Nat) (l : List UInt8) : getGo 9 n p l = (0, 0, 10) := by cases l <;> simp [getGo]
theorem getGo_nil {i n p : Nat} (h : i ≠ 9) : getGo i n p [] = (0, 0, 9) := by simp [getGo, h]
theorem getGo_bad {i n p : Nat} {c : UInt8} {r : List UInt8} (h : i ≠ 9) (hc : c.toNat < 128) (hz : 0 < i ∧ c.toNat = 0) : getGo i n p (c :: r) = (0, 0, 10) := by
  simp only [getGo]; rw [if_neg h, if_pos hc, if_pos hz]
theorem getGo_end {i n p : Nat} {c : UInt8} {r : List UInt8} (h : i ≠ 9) (hc : c.toNat < 128) (hz : ¬ (0 < i ∧ c.toNat = 0)) : getGo i n p (c :: r) = (n + c.toNat * p, i + 1, 0) := by
  simp only [getGo]; rw [if_neg h, if_pos hc, if_neg hz]
theorem getGo_on {i n p : Nat} {c : UInt8} {r : List UInt8} (h : i ≠ 9) (hc : ¬ c.toNat < 128) : getGo i n p (c :: r) = getGo (i + 1) (n + (c.toNat - 128) * p) (p * 128) r := by
  simp only [getGo]; rw [if_neg h, if_neg hc]

/-- What a text begins with, as three results. -/
abbrev getV (s : ByteArray) : Value := .tuple #[.int .i64 (get s.data.toList).1, .int .i64 (get s.data.toList).2.1, .int .i64 (get s.data.toList).2.2]

theorem drop_at (s : ByteArray) (k : Nat) (h : k < s.size) : s.data.toList.drop k = s[k] :: s.data.toList.drop (k + 1) := by
  rw [List.drop_eq_getElem_cons (by simpa using h)]; rfl

end Go.Proofs.YtfjgpjgphdiliaaGreat
/- The walks of layer 22, on: All, the reference's, and whether two lists are the same. By the prover of this repo. -/
namespace Go.Proofs.YtfjgpjgphdiliaaGreat
open Go.RowKit
open VaryM

theorem elInt : Elem Tryz.prog 72 3 (.int .i64 0) 1 8 := ⟨Tryz.underlying72, by kernel_rfl, rfl, by omega⟩
/-- A number as a value. -/
def iv (n : Int) : Value := .int .i64 n
theorem own_nil_ints (w : World) (base : Nat) : w.ownsRow base 3 1 (.slice none 0 0) ([] : List Int).length (([] : List Int).map iv) := World.ownsRow_nil _ _ _ _
theorem list_size (s : ByteArray) : s.data.toList.length = s.size := by simp

end Go.Proofs.YtfjgpjgphdiliaaGreat
/- The walks of layer 22, on: Falls and the reference's. By the prover of this repo. -/
namespace Go.Proofs.YtfjgpjgphdiliaaGreat
open Go.RowKit
open VaryM

theorem drop_size (s : ByteArray) (k : Nat) : (s.extract k s.size).size ≤ s.size := by simp

end Go.Proofs.YtfjgpjgphdiliaaGreat
/- The walks of layer 22, on: Put, the reference's, and alive. By the prover of this repo. -/
namespace Go.Proofs.YtfjgpjgphdiliaaGreat
open Go.RowKit
open VaryM

theorem putF_neg {f : Nat → Int} {n k : Nat} (hk : k < n) (h : f k < 0) : putF f n = (⟨#[]⟩, 2) := by
  unfold putF; exact if_neg fun h2 => by have := h2 k hk; omega
theorem putF_all {f : Nat → Int} {n : Nat} (h : ∀ i, i < n → 0 ≤ f i) : putF f n = (encsStr f n, 0) := if_pos h
theorem all_succ {f : Nat → Int} {k : Nat} (h : ∀ i, i < k → 0 ≤ f i) (h2 : 0 ≤ f k) : ∀ i, i < k + 1 → 0 ≤ f i := fun i hi => by
  by_cases e : i = k
  · subst e; exact h2
  · exact h i (by omega)

set_option maxRecDepth 100000 in
set_option maxHeartbeats 400000 in
theorem vary_put (a : Option Addr) (n c : Nat) (f : Nat → Int) (w : World) (hr : Rd w a n 1 (fun i => .int .i64 (f i))) (hn : n ≤ 100000) (hf : ∀ i, i < n → f i ≤ 9223372036854775807) :
    Calls Tryz.prog 43 #[.slice a n c] w fun e w' => e = .returned (.tuple #[.string (putF f n).1, .int .i64 (putF f n).2]) ∧ Below w.heap.size w w' := by
  have hlen := hide (fun k (hk : k ≤ n) => encs_len (f := f) k (fun i hi => hf i (by omega)))
  go_enter Tryz.func43, Tryz.ntmps43
  go_wp2_with fail
  go_loopw [4, 9] (fun b i wr => ∃ k : Nat, k ≤ n ∧ i = .int .i64 k ∧ wr.ownsRow w.heap.size 5 1 b (encs f k).length ((encs f k).map bv) ∧ Hid (∀ i, i < k → 0 ≤ f i) ∧ Below w.heap.size w wr)
    (fun _ i _ => n - (intOf i).toNat)
  case atStart => exact ⟨0, by omega, rfl, own_nil _ _ _ _, fun i hi => absurd hi (by omega), Below.refl _ _⟩
  case round =>
    obtain ⟨k, hk, rfl, how, hpos, hbel⟩ := hrel
    have hl := hlen.out k hk
    have hz := hbel.size
    by_cases hlt : k < n
    · obtain ⟨b, off, rfl, hb, hc⟩ := (hr.kept hbel) (by omega)
      have hck := hc k (by omega)
      have hfk := hf k hlt
      clear hc
      by_cases hneg : f k < 0
      · have hres := hide (putF_neg hlt hneg)
        go_wp2_with fail
        go_ret2
        exact ⟨by rw [hres.out]; rfl, hbel⟩
      · go_wp2_with fail
        refine (vary_one _ (encs f k) (f k) w.heap.size _ how hz (by omega) (by omega) hfk).mono ?_
        rintro e w1 ⟨v1, rfl, how1, hb1⟩
        have hbel1 := hbel.trans hb1
        clear how hb1 hck hbel hz
        go_wp2_with fail
        go_roundw
        case rel => exact ⟨k + 1, by omega, by go_num, how1, all_succ hpos.out (by omega), hbel1⟩
        case measure => simp [intOf]; omega
    · obtain rfl : k = n := by omega
      have hres := hide (putF_all hpos.out)
      have hcv := own_text (P := Tryz.prog) 80 9 Tryz.underlying80 Tryz.underlying5 Tryz.underlying9 how
      go_wp2_with fail
      go_ret2
      exact ⟨by rw [hres.out]; rfl, hbel⟩

theorem encs_one (f : Nat → Int) (k : Nat) : encsStr f k ++ encStr (f k) = encsStr f (k + 1) := str_ext (by simp [encsStr, encStr, encs])
theorem encsStr_size (f : Nat → Int) (k : Nat) : (encsStr f k).size = (encs f k).length := rfl

end Go.Proofs.YtfjgpjgphdiliaaGreat
/- The walks of layer 22, on: Rises, the reference's, and alive. By the prover of this repo. -/
namespace Go.Proofs.YtfjgpjgphdiliaaGreat
open Go.RowKit
open VaryM

/-- The number before the k-th, 0 before the first; how far each rises; the bytes of the first k. -/
def lastF (f : Nat → Int) : Nat → Int | 0 => 0 | k + 1 => f k
def gapF (f : Nat → Int) (k : Nat) : Int := f k - lastF f k
def risT (f : Nat → Int) (n k : Nat) : ByteArray := ⟨(enc n ++ encs (gapF f) k).toArray⟩
/-- The bytes of numbers that rise, or that they don't. -/
def risF (f : Nat → Int) (n : Nat) : ByteArray × Int := if ∀ i, i < n → lastF f i < f i then (risT f n n, 0) else (⟨#[]⟩, 10)

theorem risF_no {f : Nat → Int} {n k : Nat} (hk : k < n) (h : f k ≤ lastF f k) : risF f n = (⟨#[]⟩, 10) := by
  unfold risF; exact if_neg fun h2 => by have := h2 k hk; omega
theorem risF_all {f : Nat → Int} {n : Nat} (h : ∀ i, i < n → lastF f i < f i) : risF f n = (risT f n n, 0) := if_pos h
theorem ris_succ {f : Nat → Int} {k : Nat} (h : ∀ i, i < k → lastF f i < f i) (h2 : lastF f k < f k) : ∀ i, i < k + 1 → lastF f i < f i := fun i hi => by
  by_cases e : i = k
  · subst e; exact h2
  · exact h i (by omega)
theorem gaps_len {f : Nat → Int} {k : Nat} (h : (encs (gapF f) k).length ≤ 9 * k) (h0 : 0 ≤ lastF f k) (h1 : f k ≤ 9223372036854775807) : (encs (gapF f) (k + 1)).length ≤ 9 * (k + 1) := by
  have := enc_len9 (n := (gapF f k).toNat) (by unfold gapF; omega)
  simp only [encs, List.length_append]
  omega

set_option maxRecDepth 100000 in
set_option maxHeartbeats 400000 in
theorem vary_rises (a : Option Addr) (n c : Nat) (f : Nat → Int) (w : World) (hr : Rd w a n 1 (fun i => .int .i64 (f i))) (hn : n ≤ 100000) (hf : ∀ i, i < n → f i ≤ 9223372036854775807) :
    Calls Tryz.prog 44 #[.slice a n c] w fun e w' => e = .returned (.tuple #[.string (risF f n).1, .int .i64 (risF f n).2]) ∧ Below w.heap.size w w' := by
  have hl9 := enc_len9 (n := n) (by omega)
  go_enter Tryz.func44, Tryz.ntmps44
  go_wp2_with fail
  refine (vary_one _ [] n w.heap.size _ (own_nil _ _ _ _) (Nat.le_refl _) (by simp) (by omega) (by omega)).mono ?_
  rintro e w1 ⟨v1, rfl, how1, hb1⟩
  go_wp2_with fail
  go_loopw [4, 5, 13] (fun b l i wr => ∃ k : Nat, k ≤ n ∧ i = .int .i64 k ∧ l = .int .i64 (lastF f k) ∧ 0 ≤ lastF f k ∧ wr.ownsRow w.heap.size 5 1 b (enc n ++ encs (gapF f) k).length ((enc n ++ encs (gapF f) k).map bv) ∧ Hid (∀ i, i < k → lastF f i < f i) ∧ (encs (gapF f) k).length ≤ 9 * k ∧ Below w.heap.size w wr)
    (fun _ _ i _ => n - (intOf i).toNat)
  case atStart => exact ⟨0, by omega, rfl, rfl, Int.le_refl 0, by simpa [encs] using how1, fun i hi => absurd hi (by omega), by simp [encs], hb1⟩
  case round =>
    clear how1 hb1
    obtain ⟨k, hk, rfl, rfl, hl0, how, hpos, hl, hbel⟩ := hrel
    have hz := hbel.size
    by_cases hlt : k < n
    · obtain ⟨b, off, rfl, hb, hc⟩ := (hr.kept hbel) (by omega)
      have hck := hc k (by omega)
      have hfk := hf k hlt
      clear hc
      have hgl := hide (gaps_len hl hl0 hfk)
      by_cases hneg : f k ≤ lastF f k
      · have hres := hide (risF_no hlt hneg)
        go_wp2_with fail
        go_ret2
        exact ⟨by rw [hres.out]; rfl, hbel⟩
      · go_wp2_with fail
        refine (vary_one _ (enc n ++ encs (gapF f) k) (f k - lastF f k) w.heap.size _ how hz (by simp only [List.length_append]; omega) (by omega) (by omega)).mono ?_
        rintro e w2 ⟨v2, rfl, how2, hb2⟩
        have hbel2 := hbel.trans hb2
        have how3 : w2.ownsRow w.heap.size 5 1 v2 (enc n ++ encs (gapF f) (k + 1)).length ((enc n ++ encs (gapF f) (k + 1)).map bv) := by
          rw [List.append_assoc] at how2
          exact how2
        clear how hb2 hbel hz how2
        go_wp2_with fail
        go_roundw
        case rel => exact ⟨k + 1, by omega, by go_num, rfl, by show 0 ≤ f k; omega, how3, ris_succ hpos.out (by omega), hgl.out, hbel2⟩
        case measure => simp [intOf]; omega
    · obtain rfl : k = n := by omega
      have hres := hide (risF_all hpos.out)
      have hcv := own_text (P := Tryz.prog) 80 9 Tryz.underlying80 Tryz.underlying5 Tryz.underlying9 how
      go_wp2_with fail
      go_ret2
      exact ⟨by rw [hres.out]; rfl, hbel⟩

theorem risT_one (f : Nat → Int) (n k : Nat) : risT f n k ++ encStr (f k - lastF f k) = risT f n (k + 1) := str_ext (by simp [risT, encStr, encs, gapF])
theorem risT_zero (f : Nat → Int) (n : Nat) : encStr (n : Int) = risT f n 0 := str_ext (by simp [risT, encStr, encs])
theorem risT_size (f : Nat → Int) (n k : Nat) : (risT f n k).size = (enc n).length + (encs (gapF f) k).length := by
  show (enc n ++ encs (gapF f) k).length = _
  rw [List.length_append]

end Go.Proofs.YtfjgpjgphdiliaaGreat
/- The walks of layer 22, on: alive, and the law VaryPuts. By the prover of this repo. -/
namespace Go.Proofs.YtfjgpjgphdiliaaGreat
open Go.RowKit
open VaryM

theorem enc1 {n : Nat} (h : n < 128) : enc n = [UInt8.ofNat n] := enc_lt h
theorem put_300 : putF (fun i => ([300] : List Int).getD i 0) 1 = (⟨#[172, 2]⟩, 0) := by
  rw [putF_all (by intro i hi; obtain rfl : i = 0 := by omega
                   decide)]
  unfold encsStr
  rw [show encs (fun i => ([300] : List Int).getD i 0) 1 = enc 300 from rfl, enc_ge (by omega), enc_lt (by omega)]
  rfl
theorem ris_311 : risF (fun i => ([3, 10, 11] : List Int).getD i 0) 3 = (⟨#[3, 3, 7, 1]⟩, 0) := by
  rw [risF_all (by intro i hi; rcases (show i = 0 ∨ i = 1 ∨ i = 2 by omega) with rfl | rfl | rfl <;> decide)]
  unfold risT
  rw [show encs (gapF (fun i => ([3, 10, 11] : List Int).getD i 0)) 3 = ((([] ++ enc 3) ++ enc 7) ++ enc 1) from rfl, enc1 (by omega), enc1 (by omega), enc1 (by omega)]
  rfl

end Go.Proofs.YtfjgpjgphdiliaaGreat
/- The law VaryGets, walked. By the prover of this repo. -/
namespace Go.Proofs.YtfjgpjgphdiliaaGreat
open Go.RowKit
open VaryM

theorem allGo_len : ∀ (f : Nat) (acc : List Int) (l : List UInt8), l.length ≤ f → (allGo f acc l).1.length ≤ acc.length + l.length
  | 0, acc, l, _ => by simp [allGo]
  | f + 1, acc, l, h => by
    simp only [allGo]
    split
    · simp
    · split
      · simp
      · rename_i h1 h2
        have hf := (get_facts l).2.1 (by simpa using h2)
        have := allGo_len f (acc ++ [((get l).1 : Int)]) (l.drop (get l).2.1) (by simp; omega)
        simp at this
        omega
theorem all_len (l : List UInt8) : (all l).1.length ≤ l.length := by
  have := allGo_len l.length [] l (Nat.le_refl _)
  simpa [all] using this

/-- An owned slice of numbers, opened. -/
theorem own_iv {w : World} {base : Nat} {v : Value} {l : List Int} (h : w.ownsRow base 3 1 v l.length (l.map iv)) : ∃ A c, v = .slice A l.length c ∧ l.length ≤ c ∧ c ≤ maxLen ∧ Rd w A l.length 1 (fun i => .int .i64 (l.getD i 0)) := by
  obtain ⟨A, c, rfl, _, h1, h2⟩ := own_form h
  refine ⟨A, c, rfl, h1, h2, (own_rd h).congr fun i hi => ?_⟩
  have hi2 : i < l.length := by omega
  simp [hi2, iv]

end Go.Proofs.YtfjgpjgphdiliaaGreat
/- The law VaryPuts, walked. By the prover of this repo. -/
namespace Go.Proofs.YtfjgpjgphdiliaaGreat
open Go.RowKit
open VaryM

theorem getD_le {z : List Int} (b : ∀ x ∈ z, (Lit.int .i64 x).wf = true) (i : Nat) : -9223372036854775808 ≤ z.getD i 0 ∧ z.getD i 0 ≤ 9223372036854775807 := by
  by_cases h : i < z.length
  · have : z.getD i 0 = z[i] := by simp [h]
    rw [this]
    have := i64_bounds (b _ (List.getElem_mem h))
    omega
  · have : z.getD i 0 = 0 := by simp [h]
    rw [this]
    omega

end Go.Proofs.YtfjgpjgphdiliaaGreat
/- The law VaryRises, walked. By the prover of this repo. -/
namespace Go.Proofs.YtfjgpjgphdiliaaGreat
open Go.RowKit
open VaryM

theorem fallGo_len (l : List UInt8) : ∀ (k : Nat) (acc : List Int) (last at_ : Nat), acc.length ≤ at_ → at_ ≤ l.length → (fallGo l k acc last at_).1.length ≤ l.length
  | 0, acc, _, at_, h1, h2 => by simp only [fallGo]; omega
  | k + 1, acc, last, at_, h1, h2 => by
    simp only [fallGo]
    split
    · simp
    · split
      · simp
      · rename_i h3 h4
        have hf := (get_facts (l.drop at_)).2.1 (by simpa using h3)
        simp only [List.length_drop] at hf
        exact fallGo_len l k _ _ _ (by simp; omega) (by omega)
theorem fall_len (l : List UInt8) (most : Int) : (fall l most).1.length ≤ l.length := by
  unfold fall
  split
  · simp
  · split
    · simp
    · rename_i h3 h4
      have hf := (get_facts l).2.1 (by simpa using h3)
      exact fallGo_len l _ _ _ _ (by simp) (by omega)

end Go.Proofs.YtfjgpjgphdiliaaGreat
/- What the law VaryBack wants of the walks' answers, as facts. By the prover of this repo. -/
namespace Go.Proofs.YtfjgpjgphdiliaaGreat
open Go.RowKit
open VaryM

/-- The one before the i-th of a list; a number before the first. -/
def prevL (last : Int) (L : List Int) : Nat → Int | 0 => last | j + 1 => L.getD j 0
theorem lastF_list (L : List Int) (i : Nat) : lastF (fun i => L.getD i 0) i = prevL 0 L i := by cases i <;> rfl
theorem prev_cons (last x : Int) (L : List Int) (j : Nat) : prevL last (x :: L) (j + 1) = prevL x L j := by cases j <;> simp [prevL]

theorem rises_iff : ∀ (L : List Int) (last : Int), Rises last L ↔ ∀ i, i < L.length → prevL last L i < L.getD i 0
  | [], _ => by simp [Rises]
  | x :: L, last => by
    rw [Rises, rises_iff L x]
    constructor
    · rintro ⟨h1, h2⟩ i hi
      cases i with
      | zero => simpa [prevL] using h1
      | succ j =>
        rw [prev_cons]
        have := h2 j (by simpa using hi)
        simpa using this
    · intro h
      refine ⟨by simpa [prevL] using h 0 (by simp), fun j hj => ?_⟩
      have := h (j + 1) (by simpa using hj)
      rw [prev_cons] at this
      simpa using this
theorem rise_map : ∀ (L : List Int) (last : Int), (List.range L.length).map (fun i => L.getD i 0 - prevL last L i) = rise last L
  | [], _ => rfl
  | x :: L, last => by
    rw [List.length_cons, List.range_succ_eq_map, List.map_cons, List.map_map, rise, ← rise_map L x]
    congr 1
    apply List.map_congr_left
    intro i _
    show (x :: L).getD (i + 1) 0 - prevL last (x :: L) (i + 1) = _
    rw [prev_cons]
    simp

theorem encs_rise (L : List Int) : encs (gapF fun i => L.getD i 0) L.length = encL (rise 0 L) := by
  rw [encs_list, ← rise_map L 0]
  congr 1

theorem risF_list {L : List Int} (h : Rises 0 L) : risF (fun i => L.getD i 0) L.length = (⟨(enc L.length ++ encL (rise 0 L)).toArray⟩, 0) := by
  rw [risF_all (fun i hi => by rw [lastF_list]; exact (rises_iff L 0).1 h i hi)]
  unfold risT
  rw [encs_rise]
theorem risF_list_no {L : List Int} (h : ¬ Rises 0 L) : risF (fun i => L.getD i 0) L.length = (⟨#[]⟩, 10) := by
  unfold risF
  refine if_neg fun h2 => h ((rises_iff L 0).2 fun i hi => ?_)
  have := h2 i hi
  rwa [lastF_list] at this

theorem encL_len : ∀ (L : List Int), (∀ x ∈ L, x ≤ 9223372036854775807) → (encL L).length ≤ 9 * L.length
  | [], _ => by simp [encL]
  | x :: L, h => by
    have h1 := h x (by simp)
    have h2 := enc_len9 (n := x.toNat) (by omega)
    have h3 := encL_len L (fun y hy => h y (by simp [hy]))
    have e : encL (x :: L) = enc x.toNat ++ encL L := by simp [encL]
    rw [e, List.length_append, List.length_cons]
    omega
theorem rise_le : ∀ (L : List Int) (last : Int), 0 ≤ last → Rises last L → (∀ x ∈ L, x ≤ 9223372036854775807) → ∀ y ∈ rise last L, y ≤ 9223372036854775807
  | [], _, _, _, _ => by simp [rise]
  | x :: L, last, h0, hr, h => by
    intro y hy
    have h1 := h x (by simp)
    rcases List.mem_cons.1 hy with rfl | hy
    · omega
    · exact rise_le L x (by have := hr.1; omega) hr.2 (fun z hz => h z (by simp [hz])) y hy

/-- What Put answers, and what All makes of it. -/
theorem put_case (z : List Int) (hz : ∀ x ∈ z, x ≤ 9223372036854775807) (hn : z.length ≤ 200) :
    putF (fun i => z.getD i 0) z.length = (⟨#[]⟩, 2) ∨ ∃ t : ByteArray, putF (fun i => z.getD i 0) z.length = (t, 0) ∧ t.size ≤ 100000 ∧ all t.data.toList = (z, 0) := by
  have hle : ∀ i, i < z.length → z.getD i 0 ≤ 9223372036854775807 := fun i hi => by simp [hi]; exact hz _ (List.getElem_mem hi)
  by_cases h : ∀ i, i < z.length → 0 ≤ z.getD i 0
  · refine .inr ⟨_, putF_all h, ?_, ?_⟩
    · have := encs_len (f := fun i => z.getD i 0) z.length hle
      rw [encsStr_size]; omega
    · show all (encs _ _) = _
      rw [all_encs (fun i hi => ⟨h i hi, hle i hi⟩)]
      have := range_getD z 0 (id : Int → Int)
      simpa using this
  · exact .inl (if_neg h)
/-- What Rises answers, and what Falls makes of it, whatever stands behind. -/
theorem rises_case (z : List Int) (s : ByteArray) (hz : ∀ x ∈ z, x ≤ 9223372036854775807) (hn : z.length ≤ 200) (hs : s.size ≤ 1000) :
    risF (fun i => z.getD i 0) z.length = (⟨#[]⟩, 10) ∨ ∃ t : ByteArray, risF (fun i => z.getD i 0) z.length = (t, 0) ∧ t.size ≤ 10000 ∧ fall (t ++ s).data.toList (z.length : Int) = (z, (t.size : Int), 0) := by
  by_cases h : Rises 0 z
  · refine .inr ⟨_, risF_list h, ?_, ?_⟩
    · show (enc z.length ++ encL (rise 0 z)).length ≤ _
      have h1 := enc_len9 (n := z.length) (by omega)
      have h2 := encL_len _ (rise_le z 0 (by omega) h hz)
      rw [rise_len] at h2
      rw [List.length_append]
      omega
    · have := fall_rise s.data.toList (by omega) h hz
      have e : (((⟨(enc z.length ++ encL (rise 0 z)).toArray⟩ : ByteArray) ++ s).data.toList) = enc z.length ++ encL (rise 0 z) ++ s.data.toList := by simp
      rw [e]
      exact this
  · exact .inl (risF_list_no h)
/-- What is read begins a text just so. -/
theorem get_case (s : ByteArray) (n sz : Nat) (h : get s.data.toList = (n, sz, 0)) : sz = (enc n).length ∧ s.extract 0 sz = encStr n := by
  obtain ⟨h1, h2⟩ := get_back h
  refine ⟨h1, str_ext ?_⟩
  rw [extract_take, h2]
  rfl
theorem falls_case (s : ByteArray) (L : List Int) (z : Int) (h : fall s.data.toList 1000 = (L, z, 0)) :
    ∃ t : ByteArray, risF (fun i => L.getD i 0) L.length = (t, 0) ∧ z = (t.size : Int) ∧ s.extract 0 t.size = t ∧ t.size ≤ s.size ∧ ∀ x ∈ L, x ≤ 9223372036854775807 := by
  obtain ⟨h1, h2, h3, h4, h5⟩ := fall_back h
  refine ⟨_, risF_list h1, h3, str_ext ?_, ?_, h2⟩
  · rw [extract_take]; exact h4
  · show (enc L.length ++ encL (rise 0 L)).length ≤ _
    rw [list_size] at h5
    exact h5
end Go.Proofs.YtfjgpjgphdiliaaGreat


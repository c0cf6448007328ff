/- The walks of layer 22, on: One, Size, Put, and the reference's. By the prover of this repo. -/
import Derived.Test.YtclndbaafibaiaaVaryW
namespace Go.Proofs.Ytclndbaafibaiaa
open Go.RowKit
open VaryM

/-- A number's bytes as a text; the bytes of many. -/
def encStr (n : Int) : ByteArray := ⟨(enc n.toNat).toArray⟩
theorem encStr_list (n : Int) : (encStr n).data.toList = enc n.toNat := rfl
theorem encStr_size (n : Int) : (encStr n).size = (enc n.toNat).length := rfl
def encsStr (f : Nat → Int) (k : Nat) : ByteArray := ⟨(encs f k).toArray⟩
/-- All numbers' bytes, or that one is below 0. -/
def putF (f : Nat → Int) (n : Nat) : ByteArray × Int := if ∀ i, i < n → 0 ≤ f i then (encsStr f n, 0) else (⟨#[]⟩, 2)

theorem own_nil (w : World) (base : Nat) (e : TypeId) (size : Nat) : w.ownsRow base e size (.slice none 0 0) ([] : List UInt8).length (([] : List UInt8).map bv) := World.ownsRow_nil _ _ _ _

set_option maxRecDepth 100000 in
set_option maxHeartbeats 400000 in
theorem ref22_one (n : Int) (w : World) (h0 : 0 ≤ n) (h1 : n ≤ 9223372036854775807) :
    Calls Try.prog 30 #[.int .i64 n] w fun e w' => e = .returned (.string (encStr n)) ∧ Below w.heap.size w w' := by
  obtain ⟨m, rfl⟩ := Int.eq_ofNat_of_zero_le h0
  have hlen := enc_len9 (n := m) (by omega)
  go_enter Try.func30, Try.ntmps30
  go_wp2_with fail
  go_loopw [0, 3] (fun y x wr => ∃ (cs : List UInt8) (k : Nat), y = .int .i64 k ∧ k ≤ m ∧ wr.ownsRow w.heap.size 5 1 x cs.length (cs.map bv) ∧ Hid (cs ++ enc k = enc m) ∧ Below w.heap.size w wr)
    (fun y _ _ => (intOf y).toNat)
  case atStart => exact ⟨[], m, rfl, by omega, own_nil _ _ _ _, rfl, Below.refl _ _⟩
  case round =>
    obtain ⟨cs, k, rfl, hk, how, hcs, hbel⟩ := hrel
    have hcl : cs.length ≤ 9 := by
      have := congrArg List.length hcs.out
      simp only [List.length_append] at this
      omega
    have hz := hbel.size
    by_cases hlt : 128 ≤ k
    · obtain ⟨c, hc, hen⟩ : ∃ c : UInt8, (128 : Int) + (k : Int) % 128 = (c.toNat : Int) ∧ Hid (enc k = c :: enc (k / 128)) :=
        ⟨UInt8.ofNat (128 + k % 128), by rw [UInt8.toNat_ofNat', Nat.mod_eq_of_lt (by omega)]; omega, enc_ge hlt⟩
      have hc2 := hide hc
      clear hc
      go_wp2_with (at_builtin; refine wpList_app1 elU8 rfl (.tmp 6) (.tmp 11) rfl w.heap.size _ _ _ [.int .u8 ((128 : Int) + (k : Int) % 128)] 5 rfl how rfl rfl (one1 rfl) (by omega) (by omega) ?_; intro v1 w1 how1 hb1 hg1 hat1)
      have how2 : w1.ownsRow w.heap.size 5 1 v1 (cs ++ [c]).length ((cs ++ [c]).map bv) := by rw [hc2.out] at how1; simpa [bv] using how1
      have hbel2 := hbel.trans hb1
      clear how1 hb1 hg1 hat1 how hbel hz
      go_wp2_with fail
      go_roundw
      case rel =>
        refine ⟨cs ++ [c], k / 128, by go_num, by omega, how2, ?_, hbel2⟩
        show _ = _
        rw [← hcs.out, hen.out, List.append_assoc]
        rfl
      case measure => simp [intOf]; omega
    · obtain ⟨c, hc, hen⟩ : ∃ c : UInt8, (k : Int) = (c.toNat : Int) ∧ Hid (enc k = [c]) := ⟨UInt8.ofNat k, by rw [UInt8.toNat_ofNat', Nat.mod_eq_of_lt (by omega)], enc_lt (show k < 128 by omega)⟩
      have hc2 := hide hc
      clear hc
      go_wp2_with (at_builtin; refine wpList_app1 elU8 rfl (.tmp 15) (.tmp 18) rfl w.heap.size _ _ _ [.int .u8 (k : Int)] 5 rfl how rfl rfl (one1 rfl) (by omega) (by omega) ?_; intro v1 w1 how1 hb1 hg1 hat1; have hcv := own_text (P := Try.prog) 41 9 Try.underlying41 Try.underlying5 Try.underlying9 (l := cs ++ [c]) (by rw [hc2.out] at how1; simpa [bv] using how1))
      go_ret
      refine ⟨?_, hbel.trans hb1⟩
      have : encStr (m : Int) = ⟨(cs ++ [c]).toArray⟩ := by
        unfold encStr
        rw [Int.toNat_natCast, ← hcs.out, hen.out]
      rw [this]
      rfl

set_option maxRecDepth 100000 in
theorem vary_size (n : Int) (w : World) (h1 : n ≤ 9223372036854775807) :
    Calls Try.prog 31 #[.int .i64 n] w fun e w' => e = .returned (.int .i64 (if n < 0 then 0 else ((enc n.toNat).length : Int))) ∧ w = w' := by
  by_cases h0 : n < 0
  · rw [if_pos h0]
    go_enter Try.func31, Try.ntmps31
    go_wp2_with fail
    go_ret
    exact ⟨rfl, rfl⟩
  · rw [if_neg h0]
    obtain ⟨m, rfl⟩ := Int.eq_ofNat_of_zero_le (show 0 ≤ n by omega)
    have hlen := enc_len9 (n := m) (by omega)
    go_enter Try.func31, Try.ntmps31
    go_wp2_with fail
    go_loop [0, 3] (fun x y => ∃ k s : Nat, x = .int .i64 k ∧ y = .int .i64 s ∧ 1 ≤ s ∧ k ≤ m ∧ Hid (s + (enc k).length = (enc m).length + 1) ∧ s ≤ 10) (fun x _ => (intOf x).toNat)
    case atStart => exact ⟨m, 1, rfl, rfl, by omega, by omega, by show _ = _; omega, by omega⟩
    case round =>
      obtain ⟨k, s, rfl, rfl, hs0, hk, hs, hs10⟩ := hrel
      by_cases hlt : 128 ≤ k
      · have hen := hide (enc_ge hlt)
        have hs2 : s + 1 ≤ 10 := by
          have h1 := hs.out
          have h2 := congrArg List.length hen.out
          have h3 := enc_pos (k / 128)
          simp only [List.length_cons] at h2
          omega
        go_wp2_with fail
        go_round
        case rel =>
          refine ⟨k / 128, s + 1, by go_num, by go_num, by omega, by omega, ?_, hs2⟩
          show _ = _
          have h1 := hs.out
          have h2 := congrArg List.length hen.out
          simp only [List.length_cons] at h2
          omega
        case measure => simp [intOf]; omega
      · have hen := hide (enc_lt (show k < 128 by omega))
        go_wp2_with fail
        go_ret
        refine ⟨ret_congr (int_congr ?_), rfl⟩
        have h1 := hs.out
        have h2 := congrArg List.length hen.out
        simp only [List.length_cons, List.length_nil] at h2
        omega
end Go.Proofs.Ytclndbaafibaiaa

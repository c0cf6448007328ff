/- The walks of layer 22: each function of the packages vary and dewpondref22, once, by what it computes. By the prover of this repo. -/
import Derived.Test.YtclndbaafibaiaaOwn
import Derived.Test.YtclndbaafibaiaaVaryM
namespace Go.Proofs.Ytclndbaafibaiaa
open Go.RowKit
open VaryM

theorem elU8 : Elem Try.prog 41 5 (.int .u8 0) 1 1 := ⟨Try.underlying41, by kernel_rfl, rfl, by omega⟩

theorem or128 (k : Nat) (hk : 0 ≤ (k : Int)) : bits .or .u8 ((k : Int) % 256) 128 = ((UInt8.ofNat (128 + k % 128)).toNat : Int) := by
  rw [u8_or _ _ (by omega) (by omega) (by omega) (by omega), UInt8.toNat_ofNat', Nat.mod_eq_of_lt (by omega)]
  have h1 : ((k : Int) % 256).toNat = k % 256 := by omega
  have h2 : (128 : Int).toNat = 128 := rfl
  rw [h1, h2]
  have h3 : ∀ x : Nat, x < 256 → x ||| 128 = 128 + x % 128 := by decide +kernel
  rw [h3 _ (by omega)]
  omega

set_option maxRecDepth 100000 in
set_option maxHeartbeats 400000 in
theorem vary_one (v : Value) (bs : List UInt8) (n : Int) (base : Nat) (w : World) (hown : w.ownsRow base 5 1 v bs.length (bs.map bv)) (hbase : base ≤ w.heap.size) (hl : bs.length ≤ 1000000) (h0 : 0 ≤ n) (h1 : n ≤ 9223372036854775807) :
    Calls Try.prog 51 #[v, .int .i64 n] w fun e w' => ∃ v', e = .returned v' ∧ w'.ownsRow base 5 1 v' (bs ++ enc n.toNat).length ((bs ++ enc n.toNat).map bv) ∧ Below base w w' := by
  obtain ⟨m, rfl⟩ := Int.eq_ofNat_of_zero_le h0
  have hlen := enc_len9 (n := m) (by omega)
  go_enter Try.func51, Try.ntmps51
  go_wp2_with fail
  go_loopw [0, 1] (fun x y wr => ∃ (cs : List UInt8) (k : Nat), y = .int .i64 k ∧ k ≤ m ∧ wr.ownsRow base 5 1 x cs.length (cs.map bv) ∧ Hid (cs ++ enc k = bs ++ enc m) ∧ Below base w wr)
    (fun _ y _ => (intOf y).toNat)
  case atStart => exact ⟨bs, m, rfl, by omega, hown, rfl, Below.refl _ _⟩
  case round =>
    obtain ⟨cs, k, rfl, hk, how, hcs, hbel⟩ := hrel
    have hcl : cs.length ≤ 1000009 := by
      have := congrArg List.length hcs.out
      simp only [List.length_append] at this
      omega
    by_cases hlt : 128 ≤ k
    · obtain ⟨c, hor, hen⟩ : ∃ c : UInt8, bits .or .u8 ((k : Int) % 256) 128 = (c.toNat : Int) ∧ Hid (enc k = c :: enc (k / 128)) := ⟨_, or128 k (by omega), enc_ge hlt⟩
      have hz := hbel.size
      go_wp2_with (at_builtin; refine wpList_app1 elU8 rfl (.tmp 9) (.tmp 13) rfl base _ _ _ [.int .u8 (c.toNat : Int)] 5 rfl how rfl rfl (one1 rfl) (by omega) (by omega) ?_; intro v1 w1 how1 hb1 hg1 hat1)
      have how2 : w1.ownsRow base 5 1 v1 (cs ++ [c]).length ((cs ++ [c]).map bv) := by simpa [bv] using how1
      have hbel2 := hbel.trans hb1
      clear hor how1 hb1 hg1 hat1 how hbel hz
      go_wp2_with fail
      go_roundw
      case rel =>
        refine ⟨cs ++ [c], k / 128, by go_num, by omega, how2, ?_, hbel2⟩
        show _ = _
        rw [← hcs.out, hen.out, List.append_assoc]
        rfl
      case measure => simp [intOf]; omega
    · have hen := hide (enc_lt (show k < 128 by omega))
      obtain ⟨c, hc, hen⟩ : ∃ c : UInt8, (k : Int) = (c.toNat : Int) ∧ Hid (enc k = [c]) := ⟨UInt8.ofNat k, by rw [UInt8.toNat_ofNat', Nat.mod_eq_of_lt (by omega)], hen.out⟩
      have hz := hbel.size
      have hc2 := hide hc
      clear hc
      go_wp2_with (at_builtin; refine wpList_app1 elU8 rfl (.tmp 15) (.tmp 18) rfl base _ _ _ [.int .u8 (k : Int)] 5 rfl how rfl rfl (one1 rfl) (by omega) (by omega) ?_; intro v1 w1 how1 hb1 hg1 hat1)
      have how2 : w1.ownsRow base 5 1 v1 (bs ++ enc m).length ((bs ++ enc m).map bv) := by
        rw [← hcs.out, hen.out]
        rw [hc2.out] at how1
        simpa [bv] using how1
      have hbel2 := hbel.trans hb1
      go_wp2_with fail
      go_ret
      exact ⟨v1, rfl, by simpa using how2, hbel2⟩
end Go.Proofs.Ytclndbaafibaiaa

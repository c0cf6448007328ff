/- The walks of layer 28, on: a sensor's children. By the prover of this repo. -/
import Derived.Test.YtcpakoobgcdekaaDoorGroveS
import Derived.Test.YtcpakoobgcdekaaDoorEachM
namespace Go.Proofs.YtcpakoobgcdekaaDoor
open Go.RowKit

/-- The children of a sensor, rising. -/
def kidsL (p : List Int) (i : Int) : List Nat := (List.range p.length).filter fun k => decide (p.getD k 0 = i)
theorem kidsL_mem {p : List Int} {i : Int} {k : Nat} : k ∈ kidsL p i ↔ k < p.length ∧ p.getD k 0 = i := by unfold kidsL; simp
theorem with_set (s k : Nat) (hs : s < 281474976710656) (hk : k < 48) : ∃ t : Nat, withF (s : Int) (k : Int) = (t : Int) ∧ t < 281474976710656 ∧ ∀ j, t.testBit j = (s.testBit j || decide (j = k)) := by
  have hp : 2 ^ k ≤ 140737488355328 := by
    have := Nat.pow_le_pow_right (n := 2) (by omega) (show k ≤ 47 by omega)
    rwa [show (2 : Nat) ^ 47 = 140737488355328 from rfl] at this
  have hb := with_bits (s : Int) (k : Int) (by omega) (by omega)
  have ho : oneF (k : Int) = ((2 ^ k : Nat) : Int) := by unfold oneF; rw [if_pos (by omega), Int.toNat_natCast, pow_i]
  rw [ho, or_u64 s (2 ^ k) (by omega) (by omega)] at hb
  have hx : s ||| 2 ^ k < 2 ^ 48 := Nat.or_lt_two_pow (by omega) (by omega)
  exact ⟨s ||| 2 ^ k, hb.symm, by omega, fun j => by rw [Nat.testBit_or, Nat.testBit_two_pow]; congr 1; rw [decide_eq_decide]; omega⟩
/-- A set that has the children among the first k, and them alone. -/
def KidSet (p : List Int) (i : Int) (k s : Nat) : Prop := s < 281474976710656 ∧ ∀ j, s.testBit j = (decide (j < k) && decide (p.getD j 0 = i))
theorem kidSet_bits {p : List Int} {i : Int} {s : Nat} (hp : p.length ≤ 48) (h : KidSet p i p.length s) : bitsL s = kidsL p i := by
  unfold bitsL kidsL
  have e : ((List.range 48).filter fun j => s.testBit j) = (List.range (p.length + (48 - p.length))).filter fun j => s.testBit j := by rw [show p.length + (48 - p.length) = 48 by omega]
  rw [e, List.range_add, List.filter_append]
  have h2 : (((List.range (48 - p.length)).map fun x => p.length + x).filter fun j => s.testBit j) = [] := by
    rw [List.filter_eq_nil_iff]
    intro j hj
    obtain ⟨x, _, rfl⟩ := List.mem_map.1 hj
    rw [h.2, decide_eq_false (by omega), Bool.false_and]
    decide
  rw [h2, List.append_nil]
  apply List.filter_congr
  intro j hj
  rw [h.2, decide_eq_true (by simpa using hj), Bool.true_and]
set_option maxRecDepth 100000 in
theorem grove_kids (A : Option Addr) (c : Nat) (p : List Int) (i : Int) (w : World) (hr : Rd w A p.length 1 (ic p)) (hn : p.length ≤ 48) :
    Calls Tryd.prog 59 #[.slice A p.length c, .int .i64 i] w fun e w' => w' = w ∧ ∃ s : Nat, e = .returned (.int .u64 s) ∧ KidSet p i p.length s := by
  obtain ⟨n, hnn⟩ : ∃ n, Hid (p.length = n) := ⟨_, rfl⟩
  have hrH := hide hr
  rw [hnn.out] at hn ⊢
  clear hr
  go_enter Tryd.func59, Tryd.ntmps59
  go_wp2_with fail
  go_loop [5, 10] (fun s x => ∃ (k t : Nat), x = .int .i64 k ∧ s = .int .u64 t ∧ k ≤ n ∧ KidSet p i k t) (fun _ x => n - (intOf x).toNat)
  case atStart => exact ⟨0, 0, rfl, rfl, Nat.zero_le _, by omega, fun j => by simp⟩
  case round =>
    obtain ⟨k, t, rfl, rfl, hk, ht, hts⟩ := hrel
    have hts := hide hts
    by_cases hlt : k < n
    · have hkl : k < p.length := by rw [hnn.out]; exact hlt
      obtain ⟨b, off, rfl, hb, hc⟩ := it_at hrH.out hkl
      have e : p.getD k 0 = p[k] := by simp [hkl]
      by_cases hy : p[k] = i
      · rw [hy] at hc e
        clear hy
        obtain ⟨t2, hw, ht2, hts2⟩ := with_set t k ht (by omega)
        have hnew : Hid (∀ j, t2.testBit j = (decide (j < k + 1) && decide (p.getD j 0 = i))) := fun j => by
          rw [hts2, hts.out]
          by_cases hj : j = k
          · subst hj; rw [e]; simp
          · rw [decide_eq_false hj, Bool.or_false]
            congr 1
            rw [decide_eq_decide]
            omega
        have hW := fun W => crew_with (t : Int) (k : Int) W (by omega) (by omega)
        rw [hw] at hW
        have hW := hide hW
        clear hw hts2 hts e
        go_wp2_with (go_at_call 33; refine (hW.out _).mono ?_; rintro e w1 ⟨rfl, rfl⟩)
        go_round
        case rel => exact ⟨k + 1, t2, by go_num, rfl, by omega, ht2, hnew.out⟩
        case measure => simp [intOf]; omega
      · have hnew : Hid (∀ j, t.testBit j = (decide (j < k + 1) && decide (p.getD j 0 = i))) := fun j => by
          rw [hts.out]
          by_cases hj : j = k
          · subst hj; rw [e, decide_eq_false hy]; simp
          · congr 1
            rw [decide_eq_decide]
            omega
        clear hts e
        generalize p[k] = y at *
        have hne : (y == i) = false := by simp; omega
        go_wp2_with fail
        go_round
        case rel => exact ⟨k + 1, t, by go_num, rfl, by omega, ht, hnew.out⟩
        case measure => simp [intOf]; omega
    · obtain rfl : k = n := by omega
      go_wp2_with fail
      go_ret
      exact ⟨rfl, t, rfl, ht, hts.out⟩
end Go.Proofs.YtcpakoobgcdekaaDoor

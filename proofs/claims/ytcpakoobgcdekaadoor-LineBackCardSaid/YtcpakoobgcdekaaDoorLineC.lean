/- Names: line.Name and the reference's. By the prover of this repo. -/
import Derived.Test.YtcpakoobgcdekaaDoorLineA
import Derived.WalkMore
namespace Go.Proofs.YtcpakoobgcdekaaDoor
open Go.RowKit

/-- May a byte stand there in a name? -/
def okC (i c : Nat) : Bool := decide ((97 ≤ c ∧ c ≤ 122) ∨ (48 ≤ c ∧ c ≤ 57 ∧ 0 < i))
def nameGo : Nat → List UInt8 → Bool
  | _, [] => true
  | i, c :: r => okC i c.toNat && nameGo (i + 1) r
def nameF (l : List UInt8) : Bool := decide (1 ≤ l.length ∧ l.length ≤ 12) && nameGo 0 l
theorem nameGo_nil (i : Nat) : nameGo i [] = true := by simp [nameGo]
theorem nameGo_on {i : Nat} {c : UInt8} {r : List UInt8} (h : (97 ≤ c.toNat ∧ c.toNat ≤ 122) ∨ (48 ≤ c.toNat ∧ c.toNat ≤ 57 ∧ 0 < i)) : nameGo i (c :: r) = nameGo (i + 1) r := by
  simp only [nameGo, okC]; rw [decide_eq_true h, Bool.true_and]
theorem nameGo_off {i : Nat} {c : UInt8} {r : List UInt8} (h : ¬ ((97 ≤ c.toNat ∧ c.toNat ≤ 122) ∨ (48 ≤ c.toNat ∧ c.toNat ≤ 57 ∧ 0 < i))) : nameGo i (c :: r) = false := by
  simp only [nameGo, okC]; rw [decide_eq_false h, Bool.false_and]
theorem len_size (s : ByteArray) : s.data.toList.length = s.size := by simp
theorem c_cases (c k : Nat) : ((97 ≤ c ∧ c ≤ 122) ∨ (48 ≤ c ∧ c ≤ 57 ∧ 0 < k)) ∨ ((48 ≤ c ∧ c ≤ 57 ∧ k = 0) ∨ c < 48 ∨ (57 < c ∧ c < 97) ∨ 122 < c) := by omega
theorem isEmpty_str {s : ByteArray} (h : 0 < s.size) : s.toList.isEmpty = false := by
  rw [ByteArray.toList_eq, List.isEmpty_eq_false_iff]
  intro e
  have := congrArg List.length e
  rw [len_size, List.length_nil] at this
  omega
set_option maxRecDepth 100000 in
set_option maxHeartbeats 400000 in
theorem line_name (s : ByteArray) (w : World) :
    Calls Tryd.prog 47 #[.string s] w fun e w' => e = .returned (.bool (nameF s.data.toList)) ∧ w = w' := by
  by_cases hsz : 1 ≤ s.size ∧ s.size ≤ 12
  · have hG : Hid (nameGo 0 (s.data.toList.drop 0) = nameF s.data.toList) := by show _ = _; unfold nameF; rw [len_size, decide_eq_true hsz, Bool.true_and, List.drop_zero]
    generalize nameF s.data.toList = G at *
    obtain ⟨h1, h12⟩ := hsz
    have he := isEmpty_str (s := s) h1
    go_enter Tryd.func47, Tryd.ntmps47
    go_wp2_with fail
    go_loop [14] (fun x => ∃ k : Nat, k ≤ s.size ∧ x = .int .i64 k ∧ Hid (nameGo k (s.data.toList.drop k) = G)) (fun x => s.size - (intOf x).toNat)
    case atStart => exact ⟨0, Nat.zero_le _, rfl, hG⟩
    case round =>
      clear hG
      obtain ⟨k, hk, rfl, hgo⟩ := hrel
      by_cases hlt : k < s.size
      · rw [drop_at s k hlt] at hgo
        have hc256 : s[k].toNat < 256 := s[k].toNat_lt
        rcases c_cases s[k].toNat k with hon | hoff
        · have hgo2 : Hid (nameGo (k + 1) (s.data.toList.drop (k + 1)) = G) := by rw [← hgo.out, nameGo_on hon]; rfl
          rcases hon with ⟨h2, h3⟩ | ⟨h2, h3, h4⟩
          all_goals
            go_wp2_with fail
            go_round
            case rel => exact ⟨k + 1, by omega, by go_num, hgo2⟩
            case measure => simp [intOf]; omega
        · have hres : Hid (false = G) := by rw [← hgo.out, nameGo_off (by omega)]; rfl
          rcases hoff with ⟨h2, h3, rfl⟩ | h2 | ⟨h2, h3⟩ | h2
          all_goals
            try (have h7 : (((s[k].toNat : Nat) : Int) ≤ 122) = False := eq_false (by omega))
            try (have h8 : (((s[k].toNat : Nat) : Int) ≤ 57) = False := eq_false (by omega))
            go_wp2_with fail
            go_ret
            exact ⟨by rw [← hres.out]; rfl, rfl⟩
      · obtain rfl : k = s.size := by omega
        have hres : Hid (true = G) := by rw [← hgo.out, List.drop_of_length_le (by simp), nameGo_nil]; rfl
        go_wp2_with fail
        go_ret
        exact ⟨by rw [← hres.out]; rfl, rfl⟩
  · have hG : nameF s.data.toList = false := by unfold nameF; rw [len_size, decide_eq_false hsz, Bool.false_and]
    rw [hG]
    by_cases h0 : s.size = 0
    · obtain rfl : s = ⟨#[]⟩ := str_ext (by rw [nil_of_size s (by omega)])
      go_enter Tryd.func47, Tryd.ntmps47
      go_wp2_with fail
      go_ret
      exact ⟨rfl, rfl⟩
    · have he := isEmpty_str (s := s) (by omega)
      have h12 : ¬ s.size ≤ 12 := by omega
      have h13 : (12 : Int) < s.size := by omega
      clear hsz hG
      go_enter Tryd.func47, Tryd.ntmps47
      go_wp2_with fail
      go_ret
      exact ⟨rfl, rfl⟩
set_option maxRecDepth 100000 in
set_option maxHeartbeats 400000 in
theorem ref35_name (s : ByteArray) (w : World) :
    Calls Tryd.prog 48 #[.string s] w fun e w' => e = .returned (.bool (nameF s.data.toList)) ∧ w = w' := by
  by_cases hsz : 1 ≤ s.size ∧ s.size ≤ 12
  · have hG : Hid (nameGo 0 (s.data.toList.drop 0) = nameF s.data.toList) := by show _ = _; unfold nameF; rw [len_size, decide_eq_true hsz, Bool.true_and, List.drop_zero]
    generalize nameF s.data.toList = G at *
    obtain ⟨h1, h12⟩ := hsz
    go_enter Tryd.func48, Tryd.ntmps48
    go_wp2_with fail
    go_loop [3] (fun x => ∃ k : Nat, k ≤ s.size ∧ x = .int .i64 k ∧ Hid (nameGo k (s.data.toList.drop k) = G)) (fun x => s.size - (intOf x).toNat)
    case atStart => exact ⟨0, Nat.zero_le _, rfl, hG⟩
    case round =>
      clear hG
      obtain ⟨k, hk, rfl, hgo⟩ := hrel
      by_cases hlt : k < s.size
      · rw [drop_at s k hlt] at hgo
        have hc256 : s[k].toNat < 256 := s[k].toNat_lt
        rcases c_cases s[k].toNat k with hon | hoff
        · have hgo2 : Hid (nameGo (k + 1) (s.data.toList.drop (k + 1)) = G) := by rw [← hgo.out, nameGo_on hon]; rfl
          rcases hon with ⟨h2, h3⟩ | ⟨h2, h3, h4⟩
          all_goals
            go_wp2_with fail
            go_round
            case rel => exact ⟨k + 1, by omega, by go_num, hgo2⟩
            case measure => simp [intOf]; omega
        · have hres : Hid (false = G) := by rw [← hgo.out, nameGo_off (by omega)]; rfl
          rcases hoff with ⟨h2, h3, rfl⟩ | h2 | ⟨h2, h3⟩ | h2
          all_goals
            try (have h7 : (((s[k].toNat : Nat) : Int) ≤ 122) = False := eq_false (by omega))
            try (have h8 : (((s[k].toNat : Nat) : Int) ≤ 57) = False := eq_false (by omega))
            go_wp2_with fail
            go_ret
            exact ⟨by rw [← hres.out]; rfl, rfl⟩
      · obtain rfl : k = s.size := by omega
        have hres : Hid (true = G) := by rw [← hgo.out, List.drop_of_length_le (by simp), nameGo_nil]; rfl
        go_wp2_with fail
        go_ret
        exact ⟨by rw [← hres.out]; rfl, rfl⟩
  · have hG : nameF s.data.toList = false := by unfold nameF; rw [len_size, decide_eq_false hsz, Bool.false_and]
    rw [hG]
    by_cases h0 : s.size = 0
    · have h01 : ((s.size : Int) < 1) = True := eq_true (by omega)
      clear hsz hG
      go_enter Tryd.func48, Tryd.ntmps48
      go_wp2_with fail
      go_ret
      exact ⟨rfl, rfl⟩
    · have h12 : ¬ s.size ≤ 12 := by omega
      have h13 : (12 : Int) < s.size := by omega
      clear hsz hG
      go_enter Tryd.func48, Tryd.ntmps48
      go_wp2_with fail
      go_ret
      exact ⟨rfl, rfl⟩
end Go.Proofs.YtcpakoobgcdekaaDoor

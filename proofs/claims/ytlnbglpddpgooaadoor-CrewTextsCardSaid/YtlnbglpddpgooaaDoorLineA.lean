/- Numbers that a text begins with: sheet.Number and the reference's. By the prover of this repo. -/
import Derived.Test.YtlnbglpddpgooaaDoorOwn
import Derived.Test.YtlnbglpddpgooaaDoorBits
namespace Go.Proofs.YtlnbglpddpgooaaDoor
open Go.RowKit

/-- The digits that a text begins with, as a number, and how many they are. -/
def numGo : Nat → Nat → List UInt8 → Option (Nat × Nat)
  | n, i, [] => some (n, i)
  | n, i, c :: r => if 48 ≤ c.toNat ∧ c.toNat ≤ 57 then (if 9223372036854775807 < 10 * n + (c.toNat - 48) then none else numGo (10 * n + (c.toNat - 48)) (i + 1) r) else some (n, i)
def numE (l : List UInt8) : Option (Nat × Nat) → Nat × Nat × Bool
  | none => (0, 0, false)
  | some (n, i) => if i = 0 ∨ (1 < i ∧ l.head? = some 48) then (0, 0, false) else (n, i, true)
def numF (l : List UInt8) : Nat × Nat × Bool := numE l (numGo 0 0 l)
theorem numGo_nil (n i : Nat) : numGo n i [] = some (n, i) := by simp [numGo]
theorem numGo_stop {n i : Nat} {c : UInt8} {r : List UInt8} (h : ¬ (48 ≤ c.toNat ∧ c.toNat ≤ 57)) : numGo n i (c :: r) = some (n, i) := by simp only [numGo]; rw [if_neg h]
theorem numGo_over {n i : Nat} {c : UInt8} {r : List UInt8} (h : 48 ≤ c.toNat ∧ c.toNat ≤ 57) (k : 9223372036854775807 < 10 * n + (c.toNat - 48)) : numGo n i (c :: r) = none := by simp only [numGo]; rw [if_pos h, if_pos k]
theorem numGo_on {n i : Nat} {c : UInt8} {r : List UInt8} (h : 48 ≤ c.toNat ∧ c.toNat ≤ 57) (k : ¬ 9223372036854775807 < 10 * n + (c.toNat - 48)) : numGo n i (c :: r) = numGo (10 * n + (c.toNat - 48)) (i + 1) r := by simp only [numGo]; rw [if_pos h, if_neg k]
theorem drop_at (s : ByteArray) (k : Nat) (h : k < s.size) : s.data.toList.drop k = s[k] :: s.data.toList.drop (k + 1) := by
  rw [List.drop_eq_getElem_cons (by simpa using h)]; rfl
theorem head_at (s : ByteArray) (h : 0 < s.size) : s.data.toList.head? = some s[0] := by
  have := drop_at s 0 h
  rw [List.drop_zero] at this
  rw [this]; rfl
theorem u8_48 {c : UInt8} : c = 48 ↔ c.toNat = 48 := ⟨fun h => by rw [h]; rfl, fun h => by rw [← UInt8.toNat_inj, h]; rfl⟩

theorem sheet_digit (c : Nat) (w : World) : Calls Tryd.prog 55 #[.int .u8 c] w fun e w' => e = .returned (.bool (decide (48 ≤ c ∧ c ≤ 57))) ∧ w = w' := by
  by_cases h1 : 48 ≤ c
  · by_cases h2 : c ≤ 57
    · rw [decide_eq_true ⟨h1, h2⟩]
      go_enter Tryd.func55, Tryd.ntmps55
      go_wp2_with fail
      go_ret
      exact ⟨ret_congr (bool_true (by omega)), rfl⟩
    · rw [decide_eq_false (fun k => h2 k.2)]
      go_enter Tryd.func55, Tryd.ntmps55
      go_wp2_with fail
      go_ret
      exact ⟨by first | rfl | exact ret_congr (bool_false (by omega)), rfl⟩
  · rw [decide_eq_false (fun k => h1 k.1)]
    go_enter Tryd.func55, Tryd.ntmps55
    go_wp2_with fail
    go_ret
    exact ⟨by first | rfl | exact ret_congr (bool_false (by omega)), rfl⟩
set_option maxRecDepth 100000 in
set_option maxHeartbeats 400000 in
theorem sheet_number (s : ByteArray) (w : World) (hs : s.size ≤ 1000000000) :
    Calls Tryd.prog 48 #[.string s] w fun e w' => e = .returned (.tuple #[.int .i64 (numF s.data.toList).1, .int .i64 (numF s.data.toList).2.1, .bool (numF s.data.toList).2.2]) ∧ w = w' := by
  have hG : Hid (numE s.data.toList (numGo 0 0 (s.data.toList.drop 0)) = numF s.data.toList) := by show _ = _; rw [List.drop_zero]; rfl
  generalize numF s.data.toList = G at *
  go_enter Tryd.func48, Tryd.ntmps48
  go_wp2_with fail
  go_loop [2, 3] (fun n x => ∃ k m : Nat, k ≤ s.size ∧ m ≤ 9223372036854775807 ∧ n = .int .i64 m ∧ x = .int .i64 k ∧ Hid (numE s.data.toList (numGo m k (s.data.toList.drop k)) = G)) (fun _ x => s.size - (intOf x).toNat)
  case atStart => exact ⟨0, 0, Nat.zero_le _, by omega, rfl, rfl, hG⟩
  case round =>
    clear hG
    obtain ⟨k, m, hk, hm, rfl, rfl, hgo⟩ := hrel
    have hD := hide (fun c W => sheet_digit c W)
    by_cases hlt : k < s.size
    · have hd := drop_at s k hlt
      rw [hd] at hgo
      clear hd
      have hc256 : s[k].toNat < 256 := s[k].toNat_lt
      by_cases hdg : 48 ≤ s[k].toNat ∧ s[k].toNat ≤ 57
      · have hD1 := hide (fun W => hD.out s[k].toNat W)
        rw [decide_eq_true hdg] at hD1
        by_cases hov : 9223372036854775807 < 10 * m + (s[k].toNat - 48)
        · have hres : Hid ((0, 0, false) = G) := by rw [← hgo.out, numGo_over hdg hov]; rfl
          obtain ⟨h1, h2⟩ := hdg
          have hq : (9223372036854775807 - ((s[k].toNat : Int) - 48)) / 10 < m := by omega
          go_wp2_with (go_at_call 55; refine (hD1.out _).mono ?_; rintro e w1 ⟨rfl, rfl⟩)
          go_ret3
          refine ⟨?_, rfl⟩
          rw [← hres.out]; rfl
        · have hgo2 : Hid (numE s.data.toList (numGo (10 * m + (s[k].toNat - 48)) (k + 1) (s.data.toList.drop (k + 1))) = G) := by rw [← hgo.out, numGo_on hdg hov]; rfl
          obtain ⟨h1, h2⟩ := hdg
          have hq : ¬ (9223372036854775807 - ((s[k].toNat : Int) - 48)) / 10 < m := by omega
          go_wp2_with (go_at_call 55; refine (hD1.out _).mono ?_; rintro e w1 ⟨rfl, rfl⟩)
          go_round
          case rel => exact ⟨k + 1, 10 * m + (s[k].toNat - 48), by omega, by omega, int_congr (by omega), by go_num, hgo2⟩
          case measure => simp [intOf]; omega
      · have hD1 := hide (fun W => hD.out s[k].toNat W)
        rw [decide_eq_false hdg] at hD1
        have hgo2 : Hid (numE s.data.toList (some (m, k)) = G) := by rw [← hgo.out, numGo_stop hdg]; rfl
        unfold numE at hgo2
        clear hgo hdg
        by_cases hk0 : k = 0
        · subst hk0
          have hres : Hid ((0, 0, false) = G) := by rw [← hgo2.out]; rfl
          go_wp2_with (go_at_call 55; refine (hD1.out _).mono ?_; rintro e w1 ⟨rfl, rfl⟩)
          go_ret3
          refine ⟨?_, rfl⟩
          rw [← hres.out]; rfl
        · by_cases hz : 1 < k ∧ s[0].toNat = 48
          · have hres : Hid ((0, 0, false) = G) := by rw [← hgo2.out]; simp only []; rw [if_pos (.inr ⟨hz.1, by rw [head_at s (by omega), Option.some_inj, u8_48]; exact hz.2⟩)]; rfl
            obtain ⟨hz1, hz2⟩ := hz
            go_wp2_with (go_at_call 55; refine (hD1.out _).mono ?_; rintro e w1 ⟨rfl, rfl⟩)
            go_ret3
            refine ⟨?_, rfl⟩
            rw [← hres.out]; rfl
          · have hres : Hid ((m, k, true) = G) := by
              rw [← hgo2.out]; simp only []
              rw [if_neg (fun h => by
                rcases h with h | ⟨h, h2⟩
                · exact hk0 h
                · rw [head_at s (by omega), Option.some_inj, u8_48] at h2; exact hz ⟨h, h2⟩)]; rfl
            by_cases hk1 : 1 < k
            · have hz2 : ¬ s[0].toNat = 48 := fun h => hz ⟨hk1, h⟩
              have hb0 : ((k : Int) == 0) = false := by simp; omega
              have hb48 : ((s[0].toNat : Int) == 48) = false := by rw [beq_eq_false_iff_ne]; omega
              clear hz
              go_wp2_with (go_at_call 55; refine (hD1.out _).mono ?_; rintro e w1 ⟨rfl, rfl⟩)
              go_ret3
              refine ⟨?_, rfl⟩
              rw [← hres.out]; rfl
            · have hk2 : ((k : Int) > 1) = False := eq_false (by omega)
              have hk3 : ((1 : Int) < (k : Int)) = False := eq_false (by omega)
              clear hz
              go_wp2_with (go_at_call 55; refine (hD1.out _).mono ?_; rintro e w1 ⟨rfl, rfl⟩)
              go_ret3
              refine ⟨?_, rfl⟩
              rw [← hres.out]; rfl
    · obtain rfl : k = s.size := by omega
      have hgo2 : Hid (numE s.data.toList (some (m, s.size)) = G) := by rw [← hgo.out, List.drop_of_length_le (by simp), numGo_nil]; rfl
      unfold numE at hgo2
      clear hgo
      by_cases hk0 : s.size = 0
      · have hres : Hid ((0, 0, false) = G) := by rw [← hgo2.out]; simp only []; rw [if_pos (.inl hk0)]; rfl
        go_wp2_with fail
        go_ret3
        refine ⟨?_, rfl⟩
        rw [← hres.out]; rfl
      · have hs0 : 0 < s.size := by omega
        by_cases hz : 1 < s.size ∧ s[0].toNat = 48
        · have hres : Hid ((0, 0, false) = G) := by rw [← hgo2.out]; simp only []; rw [if_pos (.inr ⟨hz.1, by rw [head_at s (by omega), Option.some_inj, u8_48]; exact hz.2⟩)]; rfl
          obtain ⟨hz1, hz2⟩ := hz
          go_wp2_with fail
          go_ret3
          refine ⟨?_, rfl⟩
          rw [← hres.out]; rfl
        · have hres : Hid ((m, s.size, true) = G) := by
            rw [← hgo2.out]; simp only []
            rw [if_neg (fun h => by
              rcases h with h | ⟨h, h2⟩
              · exact hk0 h
              · rw [head_at s (by omega), Option.some_inj, u8_48] at h2; exact hz ⟨h, h2⟩)]; rfl
          by_cases hk1 : 1 < s.size
          · have hz2 : ¬ s[0].toNat = 48 := fun h => hz ⟨hk1, h⟩
            have hb0 : ((s.size : Int) == 0) = false := by rw [beq_eq_false_iff_ne]; omega
            have hb48 : ((s[0].toNat : Int) == 48) = false := by rw [beq_eq_false_iff_ne]; omega
            clear hz
            go_wp2_with fail
            go_ret3
            refine ⟨?_, rfl⟩
            rw [← hres.out]; rfl
          · have hk3 : ((1 : Int) < (s.size : Int)) = False := eq_false (by omega)
            clear hz
            go_wp2_with fail
            go_ret3
            refine ⟨?_, rfl⟩
            rw [← hres.out]; rfl
end Go.Proofs.YtlnbglpddpgooaaDoor

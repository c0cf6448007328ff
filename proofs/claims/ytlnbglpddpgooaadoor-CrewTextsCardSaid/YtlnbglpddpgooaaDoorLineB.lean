/- Numbers that a text begins with: the reference's walk. By the prover of this repo; lines by its tools/gen_lineb.py. -/
import Derived.Test.YtlnbglpddpgooaaDoorLineA
namespace Go.Proofs.YtlnbglpddpgooaaDoor
open Go.RowKit

set_option maxRecDepth 100000 in
set_option maxHeartbeats 1000000 in
theorem ref25_number (s : ByteArray) (w : World) (hs : s.size ≤ 1000000000) :
    Calls Tryd.prog 42 #[.string s] w fun e w' => e = .returned (.tuple #[.int .i64 (numF s.data.toList).1, .int .i64 (numF s.data.toList).2.1, .bool (numF s.data.toList).2.2]) ∧ w = w' := by
  have hG : Hid (numE s.data.toList (numGo 0 0 (s.data.toList.drop 0)) = numF s.data.toList) := by show _ = _; rw [List.drop_zero]; rfl
  generalize numF s.data.toList = G at *
  go_enter Tryd.func42, Tryd.ntmps42
  go_wp2_with fail
  go_loop [5, 6] (fun n x => ∃ k m : Nat, k ≤ s.size ∧ m ≤ 9223372036854775807 ∧ n = .int .i64 m ∧ x = .int .i64 k ∧ Hid (numE s.data.toList (numGo m k (s.data.toList.drop k)) = G)) (fun _ x => s.size - (intOf x).toNat)
  case atStart => exact ⟨0, 0, Nat.zero_le _, by omega, rfl, rfl, hG⟩
  case round =>
    clear hG
    obtain ⟨k, m, hk, hm, rfl, rfl, hgo⟩ := hrel
    by_cases hlt : k < s.size
    · have hd := drop_at s k hlt
      rw [hd] at hgo
      clear hd
      have hc256 : s[k].toNat < 256 := s[k].toNat_lt
      by_cases hdg : 48 ≤ s[k].toNat ∧ s[k].toNat ≤ 57
      · by_cases hov : 9223372036854775807 < 10 * m + (s[k].toNat - 48)
        · have hres : Hid ((0, 0, false) = G) := by rw [← hgo.out, numGo_over hdg hov]; rfl
          obtain ⟨h1, h2⟩ := hdg
          by_cases hm1 : 922337203685477580 < m
          · go_wp2_with fail
            go_ret3
            refine ⟨?_, rfl⟩
            rw [← hres.out]; rfl
          · obtain rfl : m = 922337203685477580 := by omega
            have h7 : (7 : Int) < (s[k].toNat : Int) - 48 := by omega
            clear hov
            go_wp2_with fail
            go_ret3
            refine ⟨?_, rfl⟩
            rw [← hres.out]; rfl
        · have hgo2 : Hid (numE s.data.toList (numGo (10 * m + (s[k].toNat - 48)) (k + 1) (s.data.toList.drop (k + 1))) = G) := by rw [← hgo.out, numGo_on hdg hov]; rfl
          obtain ⟨h1, h2⟩ := hdg
          by_cases hm1 : m = 922337203685477580
          · subst hm1
            have h7 : ¬ (7 : Int) < (s[k].toNat : Int) - 48 := by omega
            clear hov
            go_wp2_with fail
            go_round
            case rel => exact ⟨k + 1, 10 * 922337203685477580 + (s[k].toNat - 48), by omega, by omega, int_congr (by omega), by go_num, hgo2⟩
            case measure => simp [intOf]; omega
          · have hm2 : ¬ (922337203685477580 : Int) < m := by omega
            have hm3 : ((m : Int) == 922337203685477580) = false := by rw [beq_eq_false_iff_ne]; omega
            have hbd : 10 * m + (s[k].toNat - 48) ≤ 9223372036854775807 := by omega
            clear hov
            go_wp2_with fail
            go_round
            case rel => exact ⟨k + 1, 10 * m + (s[k].toNat - 48), by omega, by omega, int_congr (by omega), by go_num, hgo2⟩
            case measure => simp [intOf]; omega
      · have hgo2 : Hid (numE s.data.toList (some (m, k)) = G) := by rw [← hgo.out, numGo_stop hdg]; rfl
        unfold numE at hgo2
        clear hgo
        by_cases h48 : 48 ≤ s[k].toNat
        · have h57 : ¬ s[k].toNat ≤ 57 := fun h => hdg ⟨h48, h⟩
          clear hdg
          by_cases hk0 : k = 0
          · subst hk0
            have hres : Hid ((0, 0, false) = G) := by rw [← hgo2.out]; rfl
            go_wp2_with fail
            go_ret3
            refine ⟨?_, rfl⟩
            rw [← hres.out]; rfl
          · have hs0 : 0 < s.size := by omega
            have hb0 : ((k : Int) == 0) = false := by rw [beq_eq_false_iff_ne]; omega
            by_cases hz : 1 < k ∧ s[0].toNat = 48
            · have hres : Hid ((0, 0, false) = G) := by rw [← hgo2.out]; simp only []; rw [if_pos (.inr ⟨hz.1, by rw [head_at s (by omega), Option.some_inj, u8_48]; exact hz.2⟩)]; rfl
              obtain ⟨hz1, hz2⟩ := hz
              have hb48 : ((s[0].toNat : Int) == 48) = true := by rw [beq_iff_eq]; omega
              go_wp2_with fail
              go_ret3
              refine ⟨?_, rfl⟩
              rw [← hres.out]; rfl
            · have hres : Hid ((m, k, true) = G) := by
                rw [← hgo2.out]; simp only []
                rw [if_neg (fun h => by
                  rcases h with h | ⟨h, h2⟩
                  · exact hk0 h
                  · rw [head_at s (by omega), Option.some_inj, u8_48] at h2; exact hz ⟨h, h2⟩)]; rfl
              by_cases hk1 : 1 < k
              · have hz2 : ¬ s[0].toNat = 48 := fun h => hz ⟨hk1, h⟩
                have hb48 : ((s[0].toNat : Int) == 48) = false := by rw [beq_eq_false_iff_ne]; omega
                clear hz
                go_wp2_with fail
                go_ret3
                refine ⟨?_, rfl⟩
                rw [← hres.out]; rfl
              · have hk3 : ((1 : Int) < (k : Int)) = False := eq_false (by omega)
                clear hz
                go_wp2_with fail
                go_ret3
                refine ⟨?_, rfl⟩
                rw [← hres.out]; rfl
        · clear hdg
          by_cases hk0 : k = 0
          · subst hk0
            have hres : Hid ((0, 0, false) = G) := by rw [← hgo2.out]; rfl
            go_wp2_with fail
            go_ret3
            refine ⟨?_, rfl⟩
            rw [← hres.out]; rfl
          · have hs0 : 0 < s.size := by omega
            have hb0 : ((k : Int) == 0) = false := by rw [beq_eq_false_iff_ne]; omega
            by_cases hz : 1 < k ∧ s[0].toNat = 48
            · have hres : Hid ((0, 0, false) = G) := by rw [← hgo2.out]; simp only []; rw [if_pos (.inr ⟨hz.1, by rw [head_at s (by omega), Option.some_inj, u8_48]; exact hz.2⟩)]; rfl
              obtain ⟨hz1, hz2⟩ := hz
              have hb48 : ((s[0].toNat : Int) == 48) = true := by rw [beq_iff_eq]; omega
              go_wp2_with fail
              go_ret3
              refine ⟨?_, rfl⟩
              rw [← hres.out]; rfl
            · have hres : Hid ((m, k, true) = G) := by
                rw [← hgo2.out]; simp only []
                rw [if_neg (fun h => by
                  rcases h with h | ⟨h, h2⟩
                  · exact hk0 h
                  · rw [head_at s (by omega), Option.some_inj, u8_48] at h2; exact hz ⟨h, h2⟩)]; rfl
              by_cases hk1 : 1 < k
              · have hz2 : ¬ s[0].toNat = 48 := fun h => hz ⟨hk1, h⟩
                have hb48 : ((s[0].toNat : Int) == 48) = false := by rw [beq_eq_false_iff_ne]; omega
                clear hz
                go_wp2_with fail
                go_ret3
                refine ⟨?_, rfl⟩
                rw [← hres.out]; rfl
              · have hk3 : ((1 : Int) < (k : Int)) = False := eq_false (by omega)
                clear hz
                go_wp2_with fail
                go_ret3
                refine ⟨?_, rfl⟩
                rw [← hres.out]; rfl
    · obtain rfl : k = s.size := by omega
      have hgo2 : Hid (numE s.data.toList (some (m, s.size)) = G) := by rw [← hgo.out, List.drop_of_length_le (by simp), numGo_nil]; rfl
      unfold numE at hgo2
      clear hgo
      by_cases hk0 : s.size = 0
      · have hres : Hid ((0, 0, false) = G) := by rw [← hgo2.out]; simp only []; rw [if_pos (.inl hk0)]; rfl
        have hb0 : ((s.size : Int) == 0) = true := by rw [beq_iff_eq]; omega
        go_wp2_with fail
        go_ret3
        refine ⟨?_, rfl⟩
        rw [← hres.out]; rfl
      · have hs0 : 0 < s.size := by omega
        have hb0 : ((s.size : Int) == 0) = false := by rw [beq_eq_false_iff_ne]; omega
        by_cases hz : 1 < s.size ∧ s[0].toNat = 48
        · have hres : Hid ((0, 0, false) = G) := by rw [← hgo2.out]; simp only []; rw [if_pos (.inr ⟨hz.1, by rw [head_at s (by omega), Option.some_inj, u8_48]; exact hz.2⟩)]; rfl
          obtain ⟨hz1, hz2⟩ := hz
          have hb48 : ((s[0].toNat : Int) == 48) = true := by rw [beq_iff_eq]; omega
          go_wp2_with fail
          go_ret3
          refine ⟨?_, rfl⟩
          rw [← hres.out]; rfl
        · have hres : Hid ((m, s.size, true) = G) := by
            rw [← hgo2.out]; simp only []
            rw [if_neg (fun h => by
              rcases h with h | ⟨h, h2⟩
              · exact hk0 h
              · rw [head_at s (by omega), Option.some_inj, u8_48] at h2; exact hz ⟨h, h2⟩)]; rfl
          by_cases hk1 : 1 < s.size
          · have hz2 : ¬ s[0].toNat = 48 := fun h => hz ⟨hk1, h⟩
            have hb48 : ((s[0].toNat : Int) == 48) = false := by rw [beq_eq_false_iff_ne]; omega
            clear hz
            go_wp2_with fail
            go_ret3
            refine ⟨?_, rfl⟩
            rw [← hres.out]; rfl
          · have hk3 : ((1 : Int) < (s.size : Int)) = False := eq_false (by omega)
            clear hz
            go_wp2_with fail
            go_ret3
            refine ⟨?_, rfl⟩
            rw [← hres.out]; rfl
end Go.Proofs.YtlnbglpddpgooaaDoor

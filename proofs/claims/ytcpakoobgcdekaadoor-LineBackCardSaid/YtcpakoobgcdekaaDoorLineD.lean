/- The commands' words and needs: line.needs, line.Word and the reference's. By the prover of this repo. -/
import Derived.Test.YtcpakoobgcdekaaDoorLineT
import Derived.Test.YtcpakoobgcdekaaDoorLineC
import Derived.Test.YtcpakoobgcdekaaDoorOwn
namespace Go.Proofs.YtcpakoobgcdekaaDoor
open Go.RowKit

/-- How many names a command has; how many numbers at least, and at most. -/
def needF (op : Int) : Nat × Nat × Nat :=
  if op = 1 then (1, 3, 3) else if op = 2 ∨ op = 5 ∨ op = 6 then (1, 2, 2) else if op = 7 then (1, 0, 64) else if op = 18 then (2, 1, 1) else if op = 8 ∨ op = 9 then (2, 0, 0)
  else if op = 3 ∨ op = 14 ∨ op = 15 ∨ op = 17 then (1, 0, 0) else if op = 4 ∨ op = 10 ∨ op = 11 ∨ op = 12 ∨ op = 13 then (1, 1, 1) else (0, 0, 0)
theorem op_cases (op : Int) : (op < 0 ∨ 18 < op ∨ op = 0 ∨ op = 16) ∨ (op = 1 ∨ op = 2 ∨ op = 3 ∨ op = 4 ∨ op = 5 ∨ op = 6 ∨ op = 7 ∨ op = 8 ∨ op = 9 ∨ op = 10 ∨ op = 11 ∨ op = 12 ∨ op = 13 ∨ op = 14 ∨ op = 15 ∨ op = 17 ∨ op = 18) := by omega
theorem need_none {op : Int} (h : op < 0 ∨ 18 < op ∨ op = 0 ∨ op = 16) : needF op = (0, 0, 0) := by
  unfold needF
  rw [if_neg (by omega), if_neg (by omega), if_neg (by omega), if_neg (by omega), if_neg (by omega), if_neg (by omega), if_neg (by omega)]
set_option maxRecDepth 100000 in
set_option maxHeartbeats 1000000 in
theorem line_needs (op : Int) (w : World) :
    Calls Tryd.prog 77 #[.int .i64 op] w fun e w' => e = .returned (.tuple #[.int .i64 (needF op).1, .int .i64 (needF op).2.1, .int .i64 (needF op).2.2]) ∧ w = w' := by
  rcases op_cases op with h | h
  · rw [need_none h]
    have n1 : (op == 1) = false := by rw [beq_eq_false_iff_ne]; omega
    have n2 : (op == 2) = false := by rw [beq_eq_false_iff_ne]; omega
    have n3 : (op == 3) = false := by rw [beq_eq_false_iff_ne]; omega
    have n4 : (op == 4) = false := by rw [beq_eq_false_iff_ne]; omega
    have n5 : (op == 5) = false := by rw [beq_eq_false_iff_ne]; omega
    have n6 : (op == 6) = false := by rw [beq_eq_false_iff_ne]; omega
    have n7 : (op == 7) = false := by rw [beq_eq_false_iff_ne]; omega
    have n8 : (op == 8) = false := by rw [beq_eq_false_iff_ne]; omega
    have n9 : (op == 9) = false := by rw [beq_eq_false_iff_ne]; omega
    have n10 : (op == 10) = false := by rw [beq_eq_false_iff_ne]; omega
    have n11 : (op == 11) = false := by rw [beq_eq_false_iff_ne]; omega
    have n12 : (op == 12) = false := by rw [beq_eq_false_iff_ne]; omega
    have n13 : (op == 13) = false := by rw [beq_eq_false_iff_ne]; omega
    have n14 : (op == 14) = false := by rw [beq_eq_false_iff_ne]; omega
    have n15 : (op == 15) = false := by rw [beq_eq_false_iff_ne]; omega
    have n17 : (op == 17) = false := by rw [beq_eq_false_iff_ne]; omega
    have n18 : (op == 18) = false := by rw [beq_eq_false_iff_ne]; omega
    clear h
    go_enter Tryd.func77, Tryd.ntmps77
    go_wp2_with fail
    go_ret3
    exact ⟨rfl, rfl⟩
  · rcases h with rfl | rfl | rfl | rfl | rfl | rfl | rfl | rfl | rfl | rfl | rfl | rfl | rfl | rfl | rfl | rfl | rfl
    all_goals
      go_enter Tryd.func77, Tryd.ntmps77
      go_wp2_with fail
      go_ret3
      exact ⟨rfl, rfl⟩
/-- A command's word. -/
def wordF (op : Int) : ByteArray := if 0 ≤ op ∧ op < 19 then wordB op.toNat else ByteArray.empty
set_option maxRecDepth 100000 in
theorem line_word (op : Int) (w : World) (hW : Wz w) : Calls Tryd.prog 49 #[.int .i64 op] w fun e w' => e = .returned (.string (wordF op)) ∧ w = w' := by
  unfold wordF
  by_cases h : 0 ≤ op ∧ op < 19
  · rw [if_pos h]
    obtain ⟨h0, h9⟩ := h
    obtain ⟨k, rfl⟩ := Int.eq_ofNat_of_zero_le h0
    rw [Int.toNat_natCast]
    have hc := hW.1 k (by omega)
    have hlt := hW.2
    clear hW
    go_enter Tryd.func49, Tryd.ntmps49
    go_wp2_with fail
    go_ret
    exact ⟨rfl, rfl⟩
  · rw [if_neg h]
    clear hW
    by_cases h0 : op < 0
    · clear h
      go_enter Tryd.func49, Tryd.ntmps49
      go_wp2_with fail
      go_ret
      exact ⟨rfl, rfl⟩
    · have h9 : 19 ≤ op := by omega
      clear h
      go_enter Tryd.func49, Tryd.ntmps49
      go_wp2_with fail
      go_ret
      exact ⟨rfl, rfl⟩
theorem words_lit : ((wordsB.map Value.string).toArray : Array Value) = #[.string ⟨#[]⟩, .string ⟨#[110, 101, 119]⟩, .string ⟨#[97, 100, 100]⟩, .string ⟨#[112, 114, 101, 115, 115]⟩, .string ⟨#[114, 97, 110, 107]⟩, .string ⟨#[113, 117, 97, 110, 116]⟩, .string ⟨#[98, 101, 116, 119, 101, 101, 110]⟩, .string ⟨#[98, 105, 110, 115]⟩, .string ⟨#[109, 101, 114, 103, 101]⟩, .string ⟨#[99, 111, 112, 121]⟩, .string ⟨#[103, 114, 111, 119]⟩, .string ⟨#[99, 111, 97, 114, 115, 101, 110]⟩, .string ⟨#[116, 117, 114, 110]⟩, .string ⟨#[108, 111, 119, 101, 114]⟩, .string ⟨#[100, 114, 111, 112]⟩, .string ⟨#[115, 104, 111, 119]⟩, .string ⟨#[110, 97, 109, 101, 115]⟩, .string ⟨#[109, 101, 97, 110]⟩, .string ⟨#[103, 97, 112]⟩] := by rfl
set_option maxRecDepth 100000 in
theorem ref35_words (w : World) : Calls Tryd.prog 76 #[] w fun e w' => e = .returned (.slice (some ⟨w.heap.size, 0, none⟩) 19 19) ∧ Rd w' (some ⟨w.heap.size, 0, none⟩) 19 1 (fun j => .string (wordB j)) ∧ Below w.heap.size w w' := by
  have hR : Hid (Rd (w.alloc (.cells #[.string ⟨#[]⟩, .string ⟨#[110, 101, 119]⟩, .string ⟨#[97, 100, 100]⟩, .string ⟨#[112, 114, 101, 115, 115]⟩, .string ⟨#[114, 97, 110, 107]⟩, .string ⟨#[113, 117, 97, 110, 116]⟩, .string ⟨#[98, 101, 116, 119, 101, 101, 110]⟩, .string ⟨#[98, 105, 110, 115]⟩, .string ⟨#[109, 101, 114, 103, 101]⟩, .string ⟨#[99, 111, 112, 121]⟩, .string ⟨#[103, 114, 111, 119]⟩, .string ⟨#[99, 111, 97, 114, 115, 101, 110]⟩, .string ⟨#[116, 117, 114, 110]⟩, .string ⟨#[108, 111, 119, 101, 114]⟩, .string ⟨#[100, 114, 111, 112]⟩, .string ⟨#[115, 104, 111, 119]⟩, .string ⟨#[110, 97, 109, 101, 115]⟩, .string ⟨#[109, 101, 97, 110]⟩, .string ⟨#[103, 97, 112]⟩] 9)) (some ⟨w.heap.size, 0, none⟩) 19 1 (fun j => .string (wordB j))) := Rd.of_blk (Blk.made w _ _) 0 (by simp) (by
    intro i hi
    have h : i = 0 ∨ i = 1 ∨ i = 2 ∨ i = 3 ∨ i = 4 ∨ i = 5 ∨ i = 6 ∨ i = 7 ∨ i = 8 ∨ i = 9 ∨ i = 10 ∨ i = 11 ∨ i = 12 ∨ i = 13 ∨ i = 14 ∨ i = 15 ∨ i = 16 ∨ i = 17 ∨ i = 18 := by omega
    rcases h with rfl | rfl | rfl | rfl | rfl | rfl | rfl | rfl | rfl | rfl | rfl | rfl | rfl | rfl | rfl | rfl | rfl | rfl | rfl <;> rfl)
  have hb := hide (balloc0 w (.cells #[.string ⟨#[]⟩, .string ⟨#[110, 101, 119]⟩, .string ⟨#[97, 100, 100]⟩, .string ⟨#[112, 114, 101, 115, 115]⟩, .string ⟨#[114, 97, 110, 107]⟩, .string ⟨#[113, 117, 97, 110, 116]⟩, .string ⟨#[98, 101, 116, 119, 101, 101, 110]⟩, .string ⟨#[98, 105, 110, 115]⟩, .string ⟨#[109, 101, 114, 103, 101]⟩, .string ⟨#[99, 111, 112, 121]⟩, .string ⟨#[103, 114, 111, 119]⟩, .string ⟨#[99, 111, 97, 114, 115, 101, 110]⟩, .string ⟨#[116, 117, 114, 110]⟩, .string ⟨#[108, 111, 119, 101, 114]⟩, .string ⟨#[100, 114, 111, 112]⟩, .string ⟨#[115, 104, 111, 119]⟩, .string ⟨#[110, 97, 109, 101, 115]⟩, .string ⟨#[109, 101, 97, 110]⟩, .string ⟨#[103, 97, 112]⟩] 9))
  go_enter Tryd.func76, Tryd.ntmps76
  go_wp2_with fail
  go_ret
  exact ⟨rfl, hR.out, hb.out⟩
set_option maxRecDepth 100000 in
theorem ref35_word (op : Int) (w : World) : Calls Tryd.prog 50 #[.int .i64 op] w fun e w' => e = .returned (.string (wordF op)) ∧ Below w.heap.size w w' := by
  unfold wordF
  have hw := hide (ref35_words w)
  by_cases h : 0 ≤ op ∧ op < 19
  · rw [if_pos h]
    obtain ⟨h0, h9⟩ := h
    obtain ⟨k, rfl⟩ := Int.eq_ofNat_of_zero_le h0
    rw [Int.toNat_natCast]
    by_cases hk : k = 0
    · subst hk
      go_enter Tryd.func50, Tryd.ntmps50
      go_wp2_with fail
      go_ret
      exact ⟨rfl, Below.refl _ _⟩
    · have h18 : ¬ (18 : Int) < k := by omega
      have h1 : ¬ (k : Int) < 1 := by omega
      go_enter Tryd.func50, Tryd.ntmps50
      go_wp2_with fail
      refine hw.out.mono ?_
      rintro e w1 ⟨rfl, hr, hb⟩
      obtain ⟨b, off, hbo, hlt, hc⟩ := hr (by omega)
      have hck : w1.cell? ⟨b, off + k, none⟩ = some (.string (wordB k)) := hc k (by omega)
      rw [hbo]
      have hb := hide hb
      clear hc hr hbo
      go_wp2_with fail
      go_ret
      exact ⟨rfl, hb.out⟩
  · rw [if_neg h]
    by_cases h0 : op < 1
    · clear h
      go_enter Tryd.func50, Tryd.ntmps50
      go_wp2_with fail
      go_ret
      exact ⟨rfl, Below.refl _ _⟩
    · have h9 : 18 < op := by omega
      clear h
      go_enter Tryd.func50, Tryd.ntmps50
      go_wp2_with fail
      go_ret
      exact ⟨rfl, Below.refl _ _⟩
set_option maxRecDepth 100000 in
set_option maxHeartbeats 1000000 in
theorem ref35_needs (op : Int) (w : World) (h : 0 ≤ op ∧ op ≤ 18) :
    Calls Tryd.prog 69 #[.int .i64 op] w fun e w' => e = .returned (.tuple #[.int .i64 (needF op).1, .int .i64 (needF op).2.1]) ∧ Below w.heap.size w w' := by
  have hb := hide (balloc (balloc0 w (.cells #[.int .i64 0, .int .i64 1, .int .i64 1, .int .i64 1, .int .i64 1, .int .i64 1, .int .i64 1, .int .i64 1, .int .i64 2, .int .i64 2, .int .i64 1, .int .i64 1, .int .i64 1, .int .i64 1, .int .i64 1, .int .i64 1, .int .i64 0, .int .i64 1, .int .i64 2] 3)) (.cells #[.int .i64 0, .int .i64 3, .int .i64 2, .int .i64 0, .int .i64 1, .int .i64 2, .int .i64 2, .int .i64 0, .int .i64 0, .int .i64 0, .int .i64 1, .int .i64 1, .int .i64 1, .int .i64 1, .int .i64 0, .int .i64 0, .int .i64 0, .int .i64 0, .int .i64 1] 3))
  obtain ⟨h0, h9⟩ := h
  obtain ⟨k, rfl⟩ := Int.eq_ofNat_of_zero_le h0
  have hk : k < 19 := by omega
  have hn : (#[.int .i64 0, .int .i64 1, .int .i64 1, .int .i64 1, .int .i64 1, .int .i64 1, .int .i64 1, .int .i64 1, .int .i64 2, .int .i64 2, .int .i64 1, .int .i64 1, .int .i64 1, .int .i64 1, .int .i64 1, .int .i64 1, .int .i64 0, .int .i64 1, .int .i64 2] : Array Value)[k]? = some (.int .i64 (needF (k : Int)).1) ∧ (#[.int .i64 0, .int .i64 3, .int .i64 2, .int .i64 0, .int .i64 1, .int .i64 2, .int .i64 2, .int .i64 0, .int .i64 0, .int .i64 0, .int .i64 1, .int .i64 1, .int .i64 1, .int .i64 1, .int .i64 0, .int .i64 0, .int .i64 0, .int .i64 0, .int .i64 1] : Array Value)[k]? = some (.int .i64 (needF (k : Int)).2.1) := by
    have h : k = 0 ∨ k = 1 ∨ k = 2 ∨ k = 3 ∨ k = 4 ∨ k = 5 ∨ k = 6 ∨ k = 7 ∨ k = 8 ∨ k = 9 ∨ k = 10 ∨ k = 11 ∨ k = 12 ∨ k = 13 ∨ k = 14 ∨ k = 15 ∨ k = 16 ∨ k = 17 ∨ k = 18 := by omega
    rcases h with rfl | rfl | rfl | rfl | rfl | rfl | rfl | rfl | rfl | rfl | rfl | rfl | rfl | rfl | rfl | rfl | rfl | rfl | rfl <;> exact ⟨rfl, rfl⟩
  obtain ⟨hn1, hn2⟩ := hn
  generalize (needF (k : Int)).1 = a at *
  generalize (needF (k : Int)).2.1 = b at *
  have hB1 : Blk ((w.alloc (.cells #[.int .i64 0, .int .i64 1, .int .i64 1, .int .i64 1, .int .i64 1, .int .i64 1, .int .i64 1, .int .i64 1, .int .i64 2, .int .i64 2, .int .i64 1, .int .i64 1, .int .i64 1, .int .i64 1, .int .i64 1, .int .i64 1, .int .i64 0, .int .i64 1, .int .i64 2] 3)).alloc (.cells #[.int .i64 0, .int .i64 3, .int .i64 2, .int .i64 0, .int .i64 1, .int .i64 2, .int .i64 2, .int .i64 0, .int .i64 0, .int .i64 0, .int .i64 1, .int .i64 1, .int .i64 1, .int .i64 1, .int .i64 0, .int .i64 0, .int .i64 0, .int .i64 0, .int .i64 1] 3)) w.heap.size 3 #[.int .i64 0, .int .i64 1, .int .i64 1, .int .i64 1, .int .i64 1, .int .i64 1, .int .i64 1, .int .i64 1, .int .i64 2, .int .i64 2, .int .i64 1, .int .i64 1, .int .i64 1, .int .i64 1, .int .i64 1, .int .i64 1, .int .i64 0, .int .i64 1, .int .i64 2] := (Blk.made w _ _).alloc _
  have hB2 : Blk ((w.alloc (.cells #[.int .i64 0, .int .i64 1, .int .i64 1, .int .i64 1, .int .i64 1, .int .i64 1, .int .i64 1, .int .i64 1, .int .i64 2, .int .i64 2, .int .i64 1, .int .i64 1, .int .i64 1, .int .i64 1, .int .i64 1, .int .i64 1, .int .i64 0, .int .i64 1, .int .i64 2] 3)).alloc (.cells #[.int .i64 0, .int .i64 3, .int .i64 2, .int .i64 0, .int .i64 1, .int .i64 2, .int .i64 2, .int .i64 0, .int .i64 0, .int .i64 0, .int .i64 1, .int .i64 1, .int .i64 1, .int .i64 1, .int .i64 0, .int .i64 0, .int .i64 0, .int .i64 0, .int .i64 1] 3)) (w.alloc (.cells #[.int .i64 0, .int .i64 1, .int .i64 1, .int .i64 1, .int .i64 1, .int .i64 1, .int .i64 1, .int .i64 1, .int .i64 2, .int .i64 2, .int .i64 1, .int .i64 1, .int .i64 1, .int .i64 1, .int .i64 1, .int .i64 1, .int .i64 0, .int .i64 1, .int .i64 2] 3)).heap.size 3 #[.int .i64 0, .int .i64 3, .int .i64 2, .int .i64 0, .int .i64 1, .int .i64 2, .int .i64 2, .int .i64 0, .int .i64 0, .int .i64 0, .int .i64 1, .int .i64 1, .int .i64 1, .int .i64 1, .int .i64 0, .int .i64 0, .int .i64 0, .int .i64 0, .int .i64 1] := Blk.made _ _ _
  have hz : (w.alloc (.cells #[.int .i64 0, .int .i64 1, .int .i64 1, .int .i64 1, .int .i64 1, .int .i64 1, .int .i64 1, .int .i64 1, .int .i64 2, .int .i64 2, .int .i64 1, .int .i64 1, .int .i64 1, .int .i64 1, .int .i64 1, .int .i64 1, .int .i64 0, .int .i64 1, .int .i64 2] 3)).heap.size = w.heap.size + 1 := by simp
  rw [hz] at hB2
  have hc1 := (hB1.cell k).trans hn1
  have hc2 := (hB2.cell k).trans hn2
  have hl1 := hB1.lt
  have hl2 := hB2.lt
  clear hB1 hB2 hn1 hn2 hz
  generalize hW : (w.alloc (.cells #[.int .i64 0, .int .i64 1, .int .i64 1, .int .i64 1, .int .i64 1, .int .i64 1, .int .i64 1, .int .i64 1, .int .i64 2, .int .i64 2, .int .i64 1, .int .i64 1, .int .i64 1, .int .i64 1, .int .i64 1, .int .i64 1, .int .i64 0, .int .i64 1, .int .i64 2] 3)).alloc (.cells #[.int .i64 0, .int .i64 3, .int .i64 2, .int .i64 0, .int .i64 1, .int .i64 2, .int .i64 2, .int .i64 0, .int .i64 0, .int .i64 0, .int .i64 1, .int .i64 1, .int .i64 1, .int .i64 1, .int .i64 0, .int .i64 0, .int .i64 0, .int .i64 0, .int .i64 1] 3) = W2 at *
  go_enter Tryd.func69, Tryd.ntmps69
  go_wp2_with fail
  go_quiet (fail)
  go_wp2_with fail
  go_ret2
  exact ⟨rfl, below_drewN hb.out _⟩
end Go.Proofs.YtcpakoobgcdekaaDoor

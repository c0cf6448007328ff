/- strings.SplitSeq, strings.Cut at a dash, crew.number. By the prover of this repo. -/
import Derived.Test.YtlnbglpddpgooaaDoorSplC
import Derived.Test.YtlnbglpddpgooaaDoorCrewE
import Derived.Test.YtlnbglpddpgooaaDoorLineA
namespace Go.Proofs.YtlnbglpddpgooaaDoor
open Go.RowKit Go.Shelf

def seqW (s : ByteArray) (w : World) : World := ((w.alloc (.cells #[.string s] 9)).alloc (.cells #[.string ⟨#[44]⟩] 9)).alloc (.cells #[.int .i64 0] 3)
theorem seqW_size (s : ByteArray) (w : World) : (seqW s w).heap.size = w.heap.size + 3 := by unfold seqW; simp
theorem seqW_below (s : ByteArray) (w : World) : Below w.heap.size w (seqW s w) := (((Below.refl _ _).alloc (Nat.le_refl _) _).alloc (by simp) _).alloc (by simp; omega) _
theorem seqW_box (s : ByteArray) (w : World) : Boxed (seqW s w) w.heap.size 9 (.string s) ∧ Boxed (seqW s w) (w.heap.size + 1) 9 (.string ⟨#[44]⟩) ∧ Boxed (seqW s w) (w.heap.size + 2) 3 (.int .i64 0) := by
  refine ⟨((Boxed.new w _ _).alloc _).alloc _, ?_, ?_⟩
  · have := Boxed.new (w.alloc (.cells #[.string s] 9)) 9 (.string ⟨#[44]⟩)
    rw [World.size_alloc] at this
    exact this.alloc _
  · have := Boxed.new ((w.alloc (.cells #[.string s] 9)).alloc (.cells #[.string ⟨#[44]⟩] 9)) 3 (.int .i64 0)
    rw [World.size_alloc, World.size_alloc] at this
    exact this
def seqV (z : Nat) : Value := .func (.func 51) #[] #[.pointer (some ⟨z + 1, 0, none⟩), .pointer (some ⟨z, 0, none⟩), .pointer (some ⟨z + 2, 0, none⟩)]
theorem split_seq (s : ByteArray) (w : World) : Calls Tryd.prog 46 #[.string s, .string ⟨#[44]⟩, .int .i64 0] w fun e w' => e = .returned (seqV w.heap.size) ∧ w' = seqW s w := by
  unfold seqW seqV
  go_enter Tryd.func46, Tryd.ntmps46
  go_wp2_with fail
  go_ret
  exact ⟨by simp, rfl⟩
theorem str_splitSeq (s : ByteArray) (w : World) : Calls Tryd.prog 39 #[.string s, .string ⟨#[44]⟩] w fun e w' => e = .returned (seqV w.heap.size) ∧ w' = seqW s w := by
  have h := hide (split_seq s w)
  go_enter Tryd.func39, Tryd.ntmps39
  go_wp2_with (go_at_call 46; refine h.out.mono ?_; rintro e w1 ⟨rfl, rfl⟩)
  go_ret
  exact ⟨rfl, rfl⟩
/-- What strings.SplitSeq hands back goes over the text's rows. -/
theorem seq_cell (n : Nat) (hn : 1 ≤ n) (z : Nat) (s : ByteArray) (hs : s.size ≤ 1000) (w : World) (b0 : Boxed w z 9 (.string s)) (b1 : Boxed w (z + 1) 9 (.string ⟨#[44]⟩)) (b2 : Boxed w (z + 2) 3 (.int .i64 0)) :
    SeqC Fence.wide n Tryd.prog 51 #[.pointer (some ⟨z + 1, 0, none⟩), .pointer (some ⟨z, 0, none⟩), .pointer (some ⟨z + 2, 0, none⟩)] encR (KeepB z) (fun ys => ys.map (·.1) = rowsC s) (fun pre => pre.map (·.1) <+: rowsC s) 1002 z w := fun l J Jx W hW hJ _ hY h0 =>
  seq1_in n hn l z W.heap.size s hs J Jx hJ hY W ((hW.block _ b0.lt).trans b0) ((hW.block _ b1.lt).trans b1) ((hW.block _ b2.lt).trans b2) h0

/-- A row's two halves. -/
def cutF (r : ByteArray) : ByteArray × ByteArray × Bool := if 0 ≤ Lib.indexByte r.data.toList 45 then (r.extract 0 (Lib.indexByte r.data.toList 45).toNat, r.extract ((Lib.indexByte r.data.toList 45).toNat + 1) r.size, true) else (r, ⟨#[]⟩, false)
theorem lite_cut (r : ByteArray) (w : World) (hr : r.size ≤ 1000) : Calls Tryd.prog 47 #[.string r, .string ⟨#[45]⟩] w fun e w' => e = .returned (.tuple #[.string (cutF r).1, .string (cutF r).2.1, .bool (cutF r).2.2]) ∧ ∃ n, w' = w.drewN n := by
  have hI := hide (fun V => Tryd.stringslite_Index_one r 45 V)
  unfold cutF
  rcases byte_cases r.data.toList 45 with hi | ⟨i, hi⟩
  · rw [hi] at hI ⊢
    rw [if_neg (by omega)]
    clear hi
    go_enter Tryd.func47, Tryd.ntmps47
    go_wp2_with (go_at_call 54; refine (hI.out _).mono ?_; rintro e w1 ⟨rfl, rfl⟩)
    go_ret3
    exact ⟨rfl, 0, rfl⟩
  · have hi1 : i + 1 ≤ r.size := by
      have := (at_byte hi).1
      have e : r.data.toList.length = r.size := by simp
      omega
    rw [hi] at hI ⊢
    rw [if_pos (by omega), Int.toNat_natCast]
    clear hi
    have c1 : (0 : Int) ≤ ↑i := by omega
    have c2 : (↑i : Int) ≤ ↑r.size := by omega
    have c3 : (0 : Int) ≤ ↑i + 1 := by omega
    have c4 : (↑i + 1 : Int) ≤ ↑r.size := by omega
    go_enter Tryd.func47, Tryd.ntmps47
    go_wp2_with (go_at_call 54; refine (hI.out _).mono ?_; rintro e w1 ⟨rfl, rfl⟩)
    have hm : Tryd.prog.follows .mixedOrders = true := by kernel_rfl
    go_region_o
    go_wp2
    go_ret3
    exact ⟨rfl, 1, rfl⟩
theorem str_cut (r : ByteArray) (w : World) (hr : r.size ≤ 1000) : Calls Tryd.prog 40 #[.string r, .string ⟨#[45]⟩] w fun e w' => e = .returned (.tuple #[.string (cutF r).1, .string (cutF r).2.1, .bool (cutF r).2.2]) ∧ ∃ n, w' = w.drewN n := by
  have h := hide (lite_cut r w hr)
  generalize cutF r = c at *
  go_enter Tryd.func40, Tryd.ntmps40
  go_wp2_with (go_at_call 47; refine h.out.mono ?_; rintro e w1 ⟨rfl, n, rfl⟩)
  go_ret3
  exact ⟨rfl, n, rfl⟩
theorem cutF_size (r : ByteArray) : (cutF r).1.size ≤ r.size ∧ (cutF r).2.1.size ≤ r.size := by
  unfold cutF
  split
  · simp only [ByteArray.size_extract]; omega
  · exact ⟨Nat.le_refl _, Nat.zero_le _⟩

/-- The sensor that a whole text is. -/
def senF (t : ByteArray) : Nat × Bool := ((numF t.data.toList).1, (numF t.data.toList).2.2 && decide ((numF t.data.toList).2.1 = t.size) && decide ((numF t.data.toList).1 < 48))
set_option maxHeartbeats 1000000 in
theorem crew_number (t : ByteArray) (w : World) (ht : t.size ≤ 1000) : Calls Tryd.prog 41 #[.string t] w fun e w' => e = .returned (.tuple #[.int .i64 (senF t).1, .bool (senF t).2]) ∧ w = w' := by
  unfold senF
  have hN := hide (fun V => sheet_number t V (by omega))
  have hI := hide (fun (i : Int) V => crew_is i V)
  generalize numF t.data.toList = G at *
  obtain ⟨n, k, b⟩ := G
  simp only [] at hN ⊢
  have hI1 := hide (fun V => hI.out n V)
  cases b
  · go_enter Tryd.func41, Tryd.ntmps41
    go_wp2_with (first
      | (go_at_call 48; refine (hN.out _).mono ?_; rintro e w1 ⟨rfl, rfl⟩))
    go_ret2
    exact ⟨rfl, rfl⟩
  · by_cases hk : k = t.size
    · obtain ⟨d, hd⟩ : ∃ d, decide ((0 : Int) ≤ n ∧ (n : Int) < 48) = d := ⟨_, rfl⟩
      have hd2 : decide (n < 48) = d := by rw [← hd]; exact decide_eq_decide.2 (by omega)
      rw [hd] at hI1
      rw [hd2, decide_eq_true hk, Bool.true_and, Bool.true_and]
      have hk1 : ((k : Int) == (t.size : Int)) = true := by simp; omega
      clear hd hd2
      go_enter Tryd.func41, Tryd.ntmps41
      go_wp2_with (first
        | (go_at_call 48; refine (hN.out _).mono ?_; rintro e w1 ⟨rfl, rfl⟩)
        | (go_at_call 34; refine (hI1.out _).mono ?_; rintro e w1 ⟨rfl, rfl⟩))
      go_ret2
      exact ⟨rfl, rfl⟩
    · rw [decide_eq_false hk, Bool.true_and, Bool.false_and]
      have hk1 : ((k : Int) == (t.size : Int)) = false := by simp; omega
      go_enter Tryd.func41, Tryd.ntmps41
      go_wp2_with (first
        | (go_at_call 48; refine (hN.out _).mono ?_; rintro e w1 ⟨rfl, rfl⟩)
        | (go_at_call 34; refine (hI1.out _).mono ?_; rintro e w1 ⟨rfl, rfl⟩))
      go_ret2
      exact ⟨rfl, rfl⟩
end Go.Proofs.YtlnbglpddpgooaaDoor

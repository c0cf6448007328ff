/- The walk of the law SealSums. By the prover of this repo. -/
import Derived.Test.YtclndbaafibaiaaSealL
namespace Go.Proofs.Ytclndbaafibaiaa
open Go.RowKit
open SealM

theorem law_sum0 (w : World) : Calls Try.prog 18 #[.string ⟨#[]⟩] w fun e w' => e = .returned (.agg #[.int .i64 1, .int .i64 0]) ∧ Below w.heap.size w w' := law_sum ⟨#[]⟩ w (Nat.zero_le _)

set_option maxHeartbeats 1600000 in
theorem sealSums_walk (a : Option Addr) (n c : Nat) (z : List ByteArray) (w : World) (_hz : z.length = n) (hnc : n ≤ c) (hc : c ≤ maxLen) (r : Rd w a n 1 (fun i => .string (z.getD i ByteArray.empty))) (hb : ∀ x ∈ z, x.size ≤ maxLen) :
    Calls Try.prog 3 #[.slice a n c] w fun e w' => e = .returned (.bool true) ∧ Below w.heap.size w w' := by
  by_cases hg : 20 < n
  · go_enter Try.func3, Try.ntmps3
    unfold maxLen at hc
    go_wp2_with fail
    refine (alive23 _).mono ?_
    rintro e w1 ⟨rfl, hb1⟩
    go_wp2_with fail
    go_ret
    exact ⟨rfl, hb1⟩
  have hsz : ∀ i, (z.getD i ByteArray.empty).size ≤ maxLen := by
    intro i
    by_cases h : i < z.length
    · rw [List.getD_eq_getElem?_getD, List.getElem?_eq_getElem h]; exact hb _ (List.getElem_mem h)
    · rw [List.getD_eq_getElem?_getD, List.getElem?_eq_none (by omega)]; exact Nat.zero_le _
  generalize hss : (fun i => z.getD i ByteArray.empty) = ss
  have hsz2 : ∀ i, (ss i).size ≤ maxLen := fun i => by rw [← hss]; exact hsz i
  have r2 : Rd w a n 1 (fun i => .string (ss i)) := by rw [← hss]; exact r
  have HS := hide hsz2
  clear hss hsz hsz2 r _hz hb hnc hc
  go_enter Try.func3, Try.ntmps3
  go_wp2_with fail
  refine (seal_begin _).mono ?_
  rintro e w1 ⟨rfl, hb1⟩
  go_wp2_with fail
  go_loopw [3, 15] (fun x i wr => ∃ (k : Nat) (all : ByteArray), k ≤ n ∧ i = .int .i64 k ∧ x = .string all ∧ all.size ≤ 2000 ∧ Hid (all.data.toList = cat ss k) ∧ Blk wr w1.heap.size 25 #[.int .i64 (SealM.of all.data.toList).1, .int .i64 (SealM.of all.data.toList).2] ∧ Below w.heap.size w wr)
    (fun _ i _ => n - (intOf i).toNat)
  case atStart =>
    exact ⟨0, ⟨#[]⟩, by omega, rfl, rfl, Nat.zero_le _, rfl, Blk.made _ _ _, balloc hb1 _⟩
  case round =>
    obtain ⟨k, all, hk, rfl, rfl, hal, hcat, hbl, hbel⟩ := hrel
    have hin := of_in all.data.toList
    have c0 := hbl.cell 0
    have c1 := hbl.cell 1
    have f0 := hbl.free 0
    have f1 := hbl.free 1
    simp only [List.getElem?_toArray, List.getElem?_cons_zero, List.getElem?_cons_succ] at c0 c1
    have hlt1 := hbl.lt
    by_cases hlt : k < n
    · obtain ⟨b, off, rfl, hbb, hc⟩ := (r2.kept hbel) (by omega)
      have hck : wr.cell? ⟨b, off + k, none⟩ = some (.string (ss k)) := hc k (by omega)
      have hs := HS.out k
      have hcat1 : Hid (cat ss (k + 1) = cat ss k ++ (ss k).data.toList) := rfl
      generalize ss k = t at *
      clear hc
      by_cases hfit : 2000 - (all.size : Int) < t.size
      · go_wp2_with fail
        refine (alive23 _).mono ?_
        rintro e w2 ⟨rfl, hb2⟩
        go_wp2_with fail
        go_ret
        exact ⟨rfl, bthen hbel hb2⟩
      · have hsz : (all ++ t).size ≤ 2000 := by simp; omega
        have hd := hide (data_append all t)
        have hs := hide hs
        go_wp2_with fail
        refine (seal_more (SealM.of all.data.toList) t _ hin hs.out).mono ?_
        have hof : more (SealM.of all.data.toList) t.data.toList = SealM.of (all ++ t).data.toList := by rw [hd.out]; exact (more_append _ _ _).symm
        rw [hof]
        clear hof
        rintro e w2 ⟨rfl, hb2⟩
        have hbl2 := hbl.kept hb2
        have hz2 := hb2.size
        clear c0 c1 f0 f1 hck
        have c0 := hbl2.cell 0
        have c1 := hbl2.cell 1
        have f0 := hbl2.free 0
        have f1 := hbl2.free 1
        simp only [List.getElem?_toArray, List.getElem?_cons_zero, List.getElem?_cons_succ] at c0 c1
        generalize hA : all ++ t = A at *
        have hcA : Hid (A.data.toList = cat ss (k + 1)) := by
          show A.data.toList = _
          rw [hcat1.out, ← hcat.out]; exact hd.out
        clear hA hd hcat hcat1
        go_wp2_with fail
        have hblW := (hbl2.set 0 (.int .i64 (SealM.of A.data.toList).1)).set 1 (.int .i64 (SealM.of A.data.toList).2)
        have hbW := ((bthen hbel hb2).setCell (p := ⟨w1.heap.size, 0, none⟩) hb1.size (.int .i64 (SealM.of A.data.toList).1)).setCell (p := ⟨w1.heap.size, 1, none⟩) hb1.size (.int .i64 (SealM.of A.data.toList).2)
        generalize (w2.setCell ⟨w1.heap.size, 0, none⟩ (.int .i64 (SealM.of A.data.toList).1)).setCell ⟨w1.heap.size, 1, none⟩ (.int .i64 (SealM.of A.data.toList).2) = W at *
        clear hbl2 hb2 hbl c0 c1 f0 f1 hbel hz2 r2 hbb hlt1
        have c0 := hblW.cell 0
        have c1 := hblW.cell 1
        simp only [List.setIfInBounds_toArray, List.set_cons_zero, List.set_cons_succ, List.getElem?_toArray, List.getElem?_cons_zero, List.getElem?_cons_succ] at c0 c1 hblW
        have hlt1 := hblW.lt
        have hszA := hide hsz
        refine wp_region_later (by kernel_rfl) (by kernel_rfl) ?_
        repeat (go_big_quiet_step (first | (go_at_call 18; exact calls_later (law_sum A _ (by have := hszA.out; unfold maxLen; omega))) | exact rfl))
        refine wpQuiet_nil ?_
        rintro _ ⟨e1, rfl⟩
        have hblE := hblW.kept e1.property
        have hbE := bthen hbW e1.property
        clear c0 c1 hlt1 hblW hbW
        go_wp2_with fail
        go_roundw
        case rel => exact ⟨k + 1, A, by omega, by go_num, rfl, hszA.out, hcA, hblE, hbE⟩
        case measure => simp [intOf]; omega
    · have hkn : k = n := by omega
      subst hkn
      clear hlt hk
      have hal := hide hal
      have hoa : Hid (SealM.of all.data.toList = SealM.of (cat ss k)) := by show _ = _; rw [hcat.out]
      go_wp2_with fail
      refine (law_sum all _ (by have := hal.out; unfold maxLen; omega)).mono ?_
      rintro e w2 ⟨rfl, hb2⟩
      go_wp2_with fail
      have hblW := Blk.made w2 25 #[.int .i64 (SealM.of all.data.toList).1, .int .i64 (SealM.of all.data.toList).2]
      have hbW := balloc (bthen hbel hb2) (.cells #[.int .i64 (SealM.of all.data.toList).1, .int .i64 (SealM.of all.data.toList).2] 25)
      generalize w2.alloc (.cells #[.int .i64 (SealM.of all.data.toList).1, .int .i64 (SealM.of all.data.toList).2] 25) = W at *
      clear hbel hb2 hbl c0 c1 f0 f1
      have r3 := r2.kept hbW
      have c0 := hblW.cell 0
      have c1 := hblW.cell 1
      simp only [List.getElem?_toArray, List.getElem?_cons_zero, List.getElem?_cons_succ] at c0 c1
      have hlt1 := hblW.lt
      have hof : ∀ e : Later W.heap.size W, Calls Try.prog 19 #[.slice a k c] e.val fun r w' => r = .returned (sv (SealM.of all.data.toList)) ∧ Below e.val.heap.size e.val w' := fun e => by
        rw [hoa.out]
        exact seal_of a k c ss _ (later_rd _ r3) (by unfold maxLen; omega) (fun i _ => HS.out i)
      have HOF := hide hof
      clear hof
      refine wp_region_later (by kernel_rfl) (by kernel_rfl) ?_
      repeat (go_big_quiet_step (first
        | (go_at_call 19; exact calls_later (HOF.out _))
        | (go_at_call 20; exact calls_later (seal_bytes _ _ hin))
        | (go_at_call 21; exact calls_later (ref_bytes _ _ hin))
        | (go_at_call 16; exact calls_later (seal_begin _))
        | (go_at_call 18; exact calls_later (law_sum0 _))
        | (go_at_call 15; exact calls_later (alive23 _))
        | exact rfl))
      refine wpQuiet_nil ?_
      rintro _ ⟨e1, rfl⟩
      go_wp2_with fail
      go_ret
      exact ⟨rfl, bthen hbW e1.property⟩
end Go.Proofs.Ytclndbaafibaiaa

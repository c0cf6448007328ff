/- Commands that are the same; the chapter's examples; the law LineParses. By the prover of this repo. -/
import Derived.Test.YtcpakoobgcdekaaDoorLineM
namespace Go.Proofs.YtcpakoobgcdekaaDoor
open Go.RowKit

set_option maxRecDepth 100000 in
set_option maxHeartbeats 1000000 in
theorem ref35_same (op : Int) (nm ot : ByteArray) (l : List Int) (v u : Value) (w : World) (hv : Its w v l) (hu : Its w u l) :
    Calls Tryd.prog 41 #[cmdV op nm ot v, cmdV op nm ot u] w fun e w' => e = .returned (.bool true) ∧ Below w.heap.size w w' := by
  have hl : l.length ≤ 9223372036854775807 := by obtain ⟨_, _, _, _, h1, h2, _⟩ := hv; unfold maxLen at h2; omega
  have hb0 := hide (balloc (balloc0 w (.cells #[.int .i64 op, .string nm, .string ot, v] 57)) (.cells #[.int .i64 op, .string nm, .string ot, u] 57))
  have hB1 : Blk ((w.alloc (.cells #[.int .i64 op, .string nm, .string ot, v] 57)).alloc (.cells #[.int .i64 op, .string nm, .string ot, u] 57)) w.heap.size 57 #[.int .i64 op, .string nm, .string ot, v] := (Blk.made w _ _).alloc _
  have hB2 : Blk ((w.alloc (.cells #[.int .i64 op, .string nm, .string ot, v] 57)).alloc (.cells #[.int .i64 op, .string nm, .string ot, u] 57)) (w.heap.size + 1) 57 #[.int .i64 op, .string nm, .string ot, u] := Blk.made_at _ _ _ (by simp)
  obtain ⟨A, c, rfl, _, _, _, hr⟩ := hv
  obtain ⟨B, d, rfl, _, _, _, hs⟩ := hu
  have hrH := hide ((hr.alloc (.cells #[.int .i64 op, .string nm, .string ot, .slice A l.length c] 57)).alloc (.cells #[.int .i64 op, .string nm, .string ot, .slice B l.length d] 57))
  have hsH := hide ((hs.alloc (.cells #[.int .i64 op, .string nm, .string ot, .slice A l.length c] 57)).alloc (.cells #[.int .i64 op, .string nm, .string ot, .slice B l.length d] 57))
  clear hr hs
  obtain ⟨n, hn⟩ : ∃ n, Hid (l.length = n) := ⟨_, rfl⟩
  rw [hn.out] at hl hb0 hB1 hB2 hrH hsH ⊢
  have a0 := hB1.cell 0
  have a1 := hB1.cell 1
  have a2 := hB1.cell 2
  have a3 := hB1.cell 3
  have b0 := hB2.cell 0
  have b1 := hB2.cell 1
  have b2 := hB2.cell 2
  have b3 := hB2.cell 3
  simp only [List.getElem?_toArray, List.getElem?_cons_zero, List.getElem?_cons_succ] at a0 a1 a2 a3 b0 b1 b2 b3
  have l1 := hB1.lt
  have l2 := hB2.lt
  clear hB1 hB2
  generalize hW2 : (w.alloc (.cells #[.int .i64 op, .string nm, .string ot, .slice A n c] 57)).alloc (.cells #[.int .i64 op, .string nm, .string ot, .slice B n d] 57) = W2 at *
  go_enter Tryd.func41, Tryd.ntmps41
  go_wp2_with fail
  go_loopw [5] (fun x wr => ∃ k : Nat, x = .int .i64 k ∧ k ≤ n ∧ Below W2.heap.size W2 wr) (fun x _ => n - (intOf x).toNat)
  case atStart => exact ⟨0, rfl, Nat.zero_le _, Below.refl _ _⟩
  case round =>
    obtain ⟨k, rfl, hk, hbel⟩ := hrel
    have q0 := (hbel.cell (p := ⟨w.heap.size, 3, none⟩) l1).trans a3
    have q1 := (hbel.cell (p := ⟨w.heap.size + 1, 3, none⟩) l2).trans b3
    have q2 : w.heap.size < wr.heap.size := Nat.lt_of_lt_of_le l1 hbel.size
    have q3 : w.heap.size + 1 < wr.heap.size := Nat.lt_of_lt_of_le l2 hbel.size
    by_cases hlt : k < n
    · have hkl : k < l.length := by rw [hn.out]; exact hlt
      have hr' := hrH.out.of_below (Nat.le_refl _) hbel
      have hs' := hsH.out.of_below (Nat.le_refl _) hbel
      rw [← hn.out] at hr' hs'
      obtain ⟨b, off, rfl, hb, hc⟩ := it_at hr' hkl
      obtain ⟨b', off', rfl, hb', hc'⟩ := it_at hs' hkl
      generalize l[k] = x at *
      replace hbel := hide hbel
      clear hr' hs'
      go_wp2_with fail
      go_quiet (fail)
      go_wp2_with fail
      go_roundw
      case rel => exact ⟨k + 1, by go_num, by omega, below_drewN hbel.out _⟩
      case measure => simp [intOf] <;> omega
    · obtain rfl : k = n := by omega
      replace hbel := hide hbel
      go_wp2_with fail
      go_ret
      exact ⟨rfl, hb0.out.trans (hbel.out.mono (by rw [← hW2]; simp; omega))⟩
set_option maxRecDepth 100000 in
theorem law35_made (op : Int) (nm ot : ByteArray) (A : Option Addr) (n c : Nat) (w : World) :
    Calls Tryd.prog 42 #[cmdV op nm ot (.slice A n c)] w fun e w' => e = .returned (cmdV op nm ot (.slice A n c)) ∧ Below w.heap.size w w' := by
  have hb0 := hide (balloc (balloc0 w (.cells #[.int .i64 op, .string nm, .string ot, .slice A n c] 54)) (.cells zc 57))
  have hB2 : Hid (Blk ((w.alloc (.cells #[.int .i64 op, .string nm, .string ot, .slice A n c] 54)).alloc (.cells zc 57)) (w.heap.size + 1) 57 zc) := Blk.made_at _ _ _ (by simp)
  go_enter Tryd.func42, Tryd.ntmps42
  go_wp2_with fail
  (try simp only [Exit.inBlock, Exit.then])
  refine bodyPost_ret (results_cell_row rfl _ _ (w.heap.size + 1) 57 #[.int .i64 op, .string nm, .string ot, .slice A n c] (0, 0) _ rfl (by first | exact Blk.made_at _ _ _ (by simp) | exact set4 hB2.out _ _ _ _) Tryd.underlying57 rfl (by kernel_rfl)) rfl ?_
  exact ⟨rfl, by first | exact balloc (balloc0 _ _) _ | exact bel4 hb0.out (by omega) _ _ _ _⟩
theorem ex_quant : parseF ⟨#[113, 117, 97, 110, 116, 32, 97, 32, 49, 32, 50]⟩ = ((5, ⟨#[97]⟩, ⟨#[]⟩, [1, 2]), 0) := by decide +kernel
theorem ex_add : parseF ⟨#[97, 100, 100, 32, 97, 32, 48, 53, 32, 49]⟩ = (cmd0, 10) := by decide +kernel
set_option maxRecDepth 100000 in
theorem alive35 (w : World) (hW : Wz w) : Calls Tryd.prog 38 #[] w fun e w' => e = .returned (.bool true) ∧ Below w.heap.size w w' := by
  have h1 := line_parse ⟨#[113, 117, 97, 110, 116, 32, 97, 32, 49, 32, 50]⟩ w hW (by decide)
  have h2 := fun (W : World) (hb : Below w.heap.size w W) => line_parse ⟨#[97, 100, 100, 32, 97, 32, 48, 53, 32, 49]⟩ W (hW.of_below (Nat.le_refl _) hb) (by decide)
  rw [ex_quant] at h1
  rw [ex_add] at h2
  replace h1 := hide h1
  replace h2 := hide h2
  clear hW
  go_enter Tryd.func38, Tryd.ntmps38
  go_wp2_with fail
  refine h1.out.mono ?_
  rintro e w1 ⟨⟨op, nm, ot, v, rfl, hc⟩, hb1⟩
  obtain ⟨rfl, rfl, rfl, hI⟩ := hc
  obtain ⟨A, c, rfl, _, _, _, hr⟩ := hI
  have hI := hide (hr.alloc (.cells #[.int .i64 5, .string ⟨#[97]⟩, .string ⟨#[]⟩, .slice A 2 c] 54))
  have hB : Hid (Blk (w1.alloc (.cells #[.int .i64 5, .string ⟨#[97]⟩, .string ⟨#[]⟩, .slice A 2 c] 54)) w1.heap.size 54 #[.int .i64 5, .string ⟨#[97]⟩, .string ⟨#[]⟩, .slice A 2 c]) := Blk.made _ _ _
  have k1 := hide (balloc hb1 (.cells #[.int .i64 5, .string ⟨#[97]⟩, .string ⟨#[]⟩, .slice A 2 c] 54))
  clear hr hb1
  simp only [List.length_cons, List.length_nil, Nat.zero_add, Nat.reduceAdd]
  go_wp2_with fail
  refine (h2.out _ k1.out).mono ?_
  rintro e w2 ⟨⟨op2, nm2, ot2, v2, rfl, hc2⟩, hb2⟩
  obtain ⟨rfl, rfl, rfl, ⟨A2, c2, rfl, _⟩⟩ := hc2
  have hB2 := hB.out.kept hb2
  have a0 := hB2.cell 0
  have a1 := hB2.cell 1
  have a2 := hB2.cell 2
  have a3 := hB2.cell 3
  simp only [List.getElem?_toArray, List.getElem?_cons_zero, List.getElem?_cons_succ] at a0 a1 a2 a3
  have l1 := hB2.lt
  obtain ⟨b, off, rfl, hb, hc⟩ := it_at (hI.out.kept hb2) (show 1 < [(1 : Int), 2].length by decide)
  simp only [List.getElem_cons_succ, List.getElem_cons_zero] at hc
  have k2 := hide (bthen k1.out hb2)
  clear hB2 hb2 h1 h2
  simp only [cmd0, List.length_nil]
  go_wp2_with fail
  go_ret
  exact ⟨rfl, balloc k2.out _⟩
set_option maxRecDepth 100000 in
set_option maxHeartbeats 1000000 in
theorem lineParses_walk (s : ByteArray) (w : World) (hW : Wz w) (_hmax : s.size ≤ maxLen) :
    Calls Tryd.prog 7 #[.string s] w fun e w' => e = .returned (.bool true) ∧ Below w.heap.size w w' := by
  by_cases h5 : s.size ≤ 5000
  · have h1 := hide (line_parse s w hW (by omega))
    have h2 := hide (fun W => ref35_parse s W (by omega))
    have hal := hide (fun (W : World) (h : Below w.heap.size w W) => alive35 W (hW.of_below (Nat.le_refl _) h))
    generalize parseF s = q at *
    obtain ⟨⟨op, nm, ot, l⟩, er⟩ := q
    have hee : ((er : Int) == er) = true := by simp
    clear hW
    go_enter Tryd.func7, Tryd.ntmps7
    go_wp2_with fail
    refine h1.out.mono ?_
    rintro e w1 ⟨⟨o1, n1, t1, v, rfl, e1, e2, e3, hI⟩, hb1⟩
    simp only [] at e1 e2 e3 hI
    obtain rfl := e1.symm
    obtain rfl := e2.symm
    obtain rfl := e3.symm
    obtain ⟨A, c, rfl, i1, i2, i3, hr⟩ := hI
    have hI := hide (show Its w1 (.slice A l.length c) l from ⟨A, c, rfl, i1, i2, i3, hr⟩)
    have hB1 : Hid (Blk (w1.alloc (.cells #[.int .i64 op, .string nm, .string ot, .slice A l.length c] 54)) w1.heap.size 54 #[.int .i64 op, .string nm, .string ot, .slice A l.length c]) := Blk.made _ _ _
    have k1 := hide (balloc hb1 (.cells #[.int .i64 op, .string nm, .string ot, .slice A l.length c] 54))
    have hI1 := hide (hI.out.kept (balloc0 w1 (.cells #[.int .i64 op, .string nm, .string ot, .slice A l.length c] 54)))
    clear hb1 h1 hI i1 i2 i3 hr
    go_wp2_with fail
    refine (h2.out _).mono ?_
    rintro e w2 ⟨⟨o1, n1, t1, u, rfl, e1, e2, e3, hJ⟩, hb2⟩
    simp only [] at e1 e2 e3 hJ
    obtain rfl := e1.symm
    obtain rfl := e2.symm
    obtain rfl := e3.symm
    obtain ⟨B, d, rfl, j1, j2, j3, hs⟩ := hJ
    have hJ := show Its w2 (.slice B l.length d) l from ⟨B, d, rfl, j1, j2, j3, hs⟩
    have hB2 := (hB1.out.kept hb2).alloc (.cells #[.int .i64 op, .string nm, .string ot, .slice B l.length d] 57)
    have hD : Blk (w2.alloc (.cells #[.int .i64 op, .string nm, .string ot, .slice B l.length d] 57)) w2.heap.size 57 #[.int .i64 op, .string nm, .string ot, .slice B l.length d] := Blk.made _ _ _
    have k2 := balloc (bthen k1.out hb2) (.cells #[.int .i64 op, .string nm, .string ot, .slice B l.length d] 57)
    have hI2 := (hI1.out.kept hb2).kept (balloc0 w2 (.cells #[.int .i64 op, .string nm, .string ot, .slice B l.length d] 57))
    have hJ2 := hJ.kept (balloc0 w2 (.cells #[.int .i64 op, .string nm, .string ot, .slice B l.length d] 57))
    have a0 := hB2.cell 0
    have a1 := hB2.cell 1
    have a2 := hB2.cell 2
    have a3 := hB2.cell 3
    have b0 := hD.cell 0
    have b1 := hD.cell 1
    have b2 := hD.cell 2
    have b3 := hD.cell 3
    simp only [List.getElem?_toArray, List.getElem?_cons_zero, List.getElem?_cons_succ] at a0 a1 a2 a3 b0 b1 b2 b3
    have l1 := hB2.lt
    have l2 := hD.lt
    generalize hW2 : w2.alloc (.cells #[.int .i64 op, .string nm, .string ot, .slice B l.length d] 57) = W2 at *
    have m1 := hide (fun (e : Later W2.heap.size W2) => law35_made op nm ot A l.length c e.val)
    have m2 := hide (fun (e : Later W2.heap.size W2) => ref35_same op nm ot l (.slice A l.length c) (.slice B l.length d) e.val (hI2.kept e.property) (hJ2.kept e.property))
    have m3 := hide (fun (e : Later W2.heap.size W2) => hal.out e.val (bthen k2 e.property))
    replace k2 := hide k2
    clear hb2 hB1 hI1 hB2 hD hI2 hJ2 hJ hs h2 k1 j1 j2 j3
    go_wp2_with fail
    refine wp_region_later (by kernel_rfl) (by kernel_rfl) ?_
    repeat (first
      | go_big_quiet_step (first
        | (go_at_call 42; (with_reducible exact calls_later (m1.out _)))
        | (go_at_call 41; (with_reducible exact calls_later (m2.out _)))
        | (go_at_call 38; (with_reducible exact calls_later (m3.out _)))
        | exact rfl))
    refine wpQuiet_nil ?_
    rintro _ ⟨e4, rfl⟩
    have k4 := bthen k2.out e4.property
    generalize e4.val = w10 at k4 ⊢
    go_wp2_with fail
    go_ret
    exact ⟨rfl, k4⟩
  · have hal := hide (alive35 w hW)
    have h5' : (5000 : Int) < s.size := by omega
    clear hW
    go_enter Tryd.func7, Tryd.ntmps7
    go_wp2_with fail
    refine hal.out.mono ?_
    rintro e w1 ⟨rfl, hb1⟩
    go_wp2_with fail
    go_ret
    exact ⟨rfl, hb1⟩
end Go.Proofs.YtcpakoobgcdekaaDoor

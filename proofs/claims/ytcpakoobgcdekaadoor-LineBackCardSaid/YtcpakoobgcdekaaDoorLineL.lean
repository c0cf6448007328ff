/- Commands of lines: line.Parse walked. By the prover of this repo. -/
import Derived.Test.YtcpakoobgcdekaaDoorLineK
namespace Go.Proofs.YtcpakoobgcdekaaDoor
open Go.RowKit

theorem splitW_size : ∀ (r acc : List UInt8), ∀ x ∈ splitW acc r, x.length ≤ acc.length + r.length
  | [], acc, x, h => by rw [splitW_nil] at h; simp at h; subst h; simp
  | c :: r, acc, x, h => by
    by_cases hc : c = 32
    · subst hc
      rw [splitW_blank] at h
      rcases List.mem_cons.1 h with rfl | h
      · simp
      · have := splitW_size r [] x h
        simp at this ⊢; omega
    · rw [splitW_on acc hc] at h
      have := splitW_size r _ x h
      simp at this ⊢; omega
theorem words_size (s : ByteArray) (j : Nat) : ((wordsOf s).getD j ByteArray.empty).size ≤ s.size := by
  rw [List.getD_eq_getElem?_getD]
  by_cases h : j < (wordsOf s).length
  · rw [List.getElem?_eq_getElem h]
    have hm := List.getElem_mem h
    unfold wordsOf at hm
    obtain ⟨x, hx, e⟩ := List.mem_map.1 hm
    have := splitW_size _ _ x hx
    rw [len_size] at this
    rw [Option.getD_some, show (wordsOf s)[j] = ⟨x.toArray⟩ from e.symm]
    show x.toArray.size ≤ _
    simpa using this
  · rw [List.getElem?_eq_none (by omega)]
    simp
/-- A command's value in memory. -/
def CmdIs (w : World) (op : Int) (nm ot : ByteArray) (v : Value) (q : Cmd) : Prop := op = q.1 ∧ nm = q.2.1 ∧ ot = q.2.2.1 ∧ Its w v q.2.2.2
theorem parse_zero {w W : World} {q : Cmd × Int} {er : Int} (h : (cmd0, er) = q) (hB : Below w.heap.size w W) :
    (∃ op nm ot v, Ending.returned (.tuple #[.agg #[.int .i64 0, .string ⟨#[]⟩, .string ⟨#[]⟩, .slice none 0 0], .int .i64 er]) = .returned (.tuple #[cmdV op nm ot v, .int .i64 q.2]) ∧ CmdIs W op nm ot v q.1) ∧ Below w.heap.size w W :=
  ⟨⟨0, ⟨#[]⟩, ⟨#[]⟩, .slice none 0 0, by subst h; rfl, by subst h; exact ⟨rfl, rfl, rfl, Its.nil _⟩⟩, hB⟩
theorem not_nil {s : ByteArray} (h : ¬ s.size = 0) : 0 < s.size := by omega
set_option maxRecDepth 100000 in
set_option maxHeartbeats 1000000 in
theorem line_parse (s : ByteArray) (w : World) (hW : Wz w) (hs : s.size ≤ 1000000000) :
    Calls Tryd.prog 39 #[.string s] w fun e w' => (∃ op nm ot v, e = .returned (.tuple #[cmdV op nm ot v, .int .i64 (parseF s).2]) ∧ CmdIs w' op nm ot v (parseF s).1) ∧ Below w.heap.size w w' := by
  have hB0 : Hid (Blk (w.alloc (.cells #[.int .i64 0, .string ⟨#[]⟩, .string ⟨#[]⟩, .slice none 0 0] 54)) w.heap.size 54 zc) := Blk.made _ _ _
  have hb0 := hide (balloc0 w (.cells #[.int .i64 0, .string ⟨#[]⟩, .string ⟨#[]⟩, .slice none 0 0] 54))
  obtain ⟨q, hq⟩ : ∃ q, Hid (parseF s = q) := ⟨_, rfl⟩
  rw [hq.out]
  unfold parseF at hq
  by_cases h1 : 4096 < s.size
  · have hres : Hid ((cmd0, 21) = q) := by show _ = _; rw [← hq.out, if_pos h1]
    clear hq
    go_enter Tryd.func39, Tryd.ntmps39
    go_wp2_with fail
    (try simp only [Exit.inBlock, Exit.then])
    refine bodyPost_ret (results_row_tmp rfl _ _ w.heap.size 54 zc (0, 0) _ rfl (by first | exact hB0.out | exact set4 hB0.out _ _ _ _) Tryd.underlying54 rfl (by kernel_rfl)) rfl ?_
    exact parse_zero hres.out (by first | exact hb0.out | exact bel4 hb0.out (Nat.le_refl _) _ _ _ _)
  · rw [if_neg h1] at hq
    have h1' : ¬ (4096 : Int) < s.size := by omega
    by_cases h2 : s.size = 0
    · have hres : Hid ((cmd0, 0) = q) := by show _ = _; rw [← hq.out, if_pos (.inl h2)]
      obtain rfl : s = ⟨#[]⟩ := str_ext (by rw [nil_of_size s (by omega)])
      clear hq h1 h2 h1'
      go_enter Tryd.func39, Tryd.ntmps39
      go_wp2_with fail
      (try simp only [Exit.inBlock, Exit.then])
      refine bodyPost_ret (results_row_tmp rfl _ _ w.heap.size 54 zc (0, 0) _ rfl (by first | exact hB0.out | exact set4 hB0.out _ _ _ _) Tryd.underlying54 rfl (by kernel_rfl)) rfl ?_
      exact parse_zero hres.out (by first | exact hb0.out | exact bel4 hb0.out (Nat.le_refl _) _ _ _ _)
    · have hs0 : 0 < s.size := not_nil h2
      have he := isEmpty_str hs0
      by_cases h3 : s[0].toNat = 35
      · have hb35 : ((s[0].toNat : Int) == 35) = true := by rw [beq_iff_eq]; omega
        have hres : Hid ((cmd0, 0) = q) := by
          show _ = _
          rw [← hq.out, if_pos (.inr (by rw [head_at s hs0, Option.some_inj, ← UInt8.toNat_inj]; exact h3))]
        clear hq h3
        go_enter Tryd.func39, Tryd.ntmps39
        go_wp2_with fail
        (try simp only [Exit.inBlock, Exit.then])
        refine bodyPost_ret (results_row_tmp rfl _ _ w.heap.size 54 zc (0, 0) _ rfl (by first | exact hB0.out | exact set4 hB0.out _ _ _ _) Tryd.underlying54 rfl (by kernel_rfl)) rfl ?_
        exact parse_zero hres.out (by first | exact hb0.out | exact bel4 hb0.out (Nat.le_refl _) _ _ _ _)
      · have hb35 : ((s[0].toNat : Int) == 35) = false := by rw [beq_eq_false_iff_ne]; omega
        rw [if_neg (show ¬ (s.size = 0 ∨ s.data.toList.head? = some 35) from fun h => by
          rcases h with h | h
          · exact h2 h
          · rw [head_at s hs0, Option.some_inj, ← UInt8.toNat_inj] at h; exact h3 h)] at hq
        have hS := hide (fun (W : World) => str_split s W (by omega))
        have hwl := words_len s
        have hwz := words_size s
        have hRd := hide (fun (A : Option Addr) (c : Nat) (W : World) (hb : Below w.heap.size w W) (hr : Rd W A (wordsOf s).length 1 (sc (wordsOf s))) (h1 : (wordsOf s).length ≤ c) (h2 : c ≤ maxLen) =>
          line_read A c (wordsOf s) W (hW.of_below (Nat.le_refl _) hb) hr h1 h2 hwl.1 (fun j => Nat.le_trans (hwz j) (by omega)) (by omega))
        generalize readF (wordsOf s) = R at *
        clear hW h3 hwz
        go_enter Tryd.func39, Tryd.ntmps39
        go_wp2_with fail
        refine (hS.out _).mono ?_
        rintro e w1 ⟨⟨v1, rfl, hv1⟩, hb1⟩
        obtain ⟨A1, c1, rfl, _, k1, k2, hr1⟩ := hv1
        have hbw1 := bthen hb0.out hb1
        have hlt1 : w.heap.size < w1.heap.size := by have := hb1.size; simp at this; omega
        have hB1 := hide (hB0.out.kept hb1)
        have h5 := hide (hRd.out A1 c1 w1 hbw1 hr1 k1 k2)
        have hbw1 := hide hbw1
        clear hr1 hb1 hRd hS hwl k1 k2
        go_wp2_with fail
        refine h5.out.mono ?_
        rintro e w2 ⟨⟨op, nm, ot, v, b, rfl, hR⟩, hb2⟩
        have hbw2 := hide (bthen hbw1.out hb2)
        have hB2 := hB1.out.kept hb2
        have r0 := hB2.cell 0
        have r1 := hB2.cell 1
        have r2 := hB2.cell 2
        have r3 := hB2.cell 3
        simp only [List.getElem?_toArray, List.getElem?_cons_zero, List.getElem?_cons_succ] at r0 r1 r2 r3
        have f0 := hB2.free 0
        have f1 := hB2.free 1
        have f2 := hB2.free 2
        have f3 := hB2.free 3
        have hlt := hB2.lt
        replace hB2 := hide hB2
        clear hb2 h5 hB1 hbw1
        cases b
        · have hres : Hid ((cmd0, 10) = q) := by
            show _ = _
            rw [← hq.out]
            cases R with
            | none => rfl
            | some c => cases hR.1
          obtain ⟨Av, nv, cv, rfl⟩ : ∃ A n c, v = .slice A n c := by
            cases R with
            | none => exact hR.2
            | some c => cases hR.1
          clear hq hR
          go_wp2_with fail
          (try simp only [Exit.inBlock, Exit.then])
          refine bodyPost_ret (results_row_tmp rfl _ _ w.heap.size 54 zc (0, 0) _ rfl ((set4 hB2.out _ _ _ _).alloc _) Tryd.underlying54 rfl (by kernel_rfl)) rfl ?_
          exact parse_zero hres.out (balloc (bel4 hbw2.out (Nat.le_refl _) _ _ _ _) _)
        · obtain ⟨c, hc, hq2⟩ : ∃ c : Cmd, RdR w1.heap.size w2 op nm ot v true (some c) ∧ Hid ((c, 0) = q) := by
            cases R with
            | none => cases hR.1
            | some c => exact ⟨c, hR, by show _ = _; rw [← hq.out]⟩
          obtain ⟨_, g1, g2, g3, how⟩ := hc
          obtain ⟨Av, cv, rfl, _, _, _⟩ := own_form how
          obtain ⟨len, hlen⟩ : ∃ len, Hid (c.2.2.2.length = len) := ⟨_, rfl⟩
          rw [hlen.out] at how ⊢
          replace g1 := hide g1
          replace g2 := hide g2
          replace g3 := hide g3
          replace how := hide how
          clear hq hR
          go_wp2_with fail
          (try simp only [Exit.inBlock, Exit.then])
          refine bodyPost_ret (results_row_tmp rfl _ _ w.heap.size 54 #[.int .i64 op, .string nm, .string ot, .slice Av len cv] (0, 0) _ rfl ((set4 hB2.out _ _ _ _).alloc _) Tryd.underlying54 rfl (by kernel_rfl)) rfl ?_
          refine ⟨⟨op, nm, ot, _, by rw [← hq2.out]; rfl, ?_⟩, balloc (bel4 hbw2.out (Nat.le_refl _) _ _ _ _) _⟩
          rw [← hq2.out]
          exact ⟨g1.out, g2.out, g3.out, own_its hlen.out ((own_setc (own_setc (own_setc (own_setc how.out hlt1 _) hlt1 _) hlt1 _) hlt1 _).alloc _)⟩
end Go.Proofs.YtcpakoobgcdekaaDoor

/- The law LineBack, walked. By the prover of this repo; lines by its tools/gen_linex.py. -/
import Derived.Test.YtcpakoobgcdekaaDoorLineW
namespace Go.Proofs.YtcpakoobgcdekaaDoor
open Go.RowKit

theorem numW_bd {t : ByteArray} {n : Int} (h : numW t = some n) : n ≤ 9223372036854775807 := by
  unfold numW at h
  split at h
  · have h := Option.some.inj h
    subst h
    unfold numF
    cases hg : numGo 0 0 t.data.toList with
    | none => simp [numE]
    | some q =>
      have := numF_bd _ _ _ q (by omega) hg
      obtain ⟨m, i⟩ := q
      unfold numE
      simp only [] at this ⊢
      split
      · simp
      · simp only []; omega
  · cases h
theorem numsGo_bd : ∀ (r : List ByteArray) (acc l : List Int), numsGo acc r = some l → (∀ n ∈ acc, n ≤ 9223372036854775807) → ∀ n ∈ l, n ≤ 9223372036854775807
  | [], acc, l, h, ha => by rw [numsGo_nil] at h; cases h; exact ha
  | t :: r, acc, l, h, ha => by
    cases hn : numW t with
    | none => rw [numsGo_bad hn] at h; cases h
    | some n =>
      rw [numsGo_on hn] at h
      refine numsGo_bd r _ l h fun k hk => ?_
      rcases List.mem_append.1 hk with hk | hk
      · exact ha k hk
      · rw [List.mem_singleton.1 hk]; exact numW_bd hn
theorem parse_bd {s : ByteArray} : ∀ n ∈ (parseF s).1.2.2.2, n ≤ 9223372036854775807 := by
  unfold parseF
  split
  · intro n hn; cases hn
  · split
    · intro n hn; cases hn
    · cases hr : readF (wordsOf s) with
      | none => intro n hn; cases hn
      | some c =>
        unfold readF at hr
        split at hr
        · cases hr
        · split at hr
          · cases hr
          · cases hn : numsGo [] ((wordsOf s).drop (1 + (needF (opF ((wordsOf s).getD 0 ByteArray.empty) : Nat)).1)) with
            | none => rw [hn] at hr; cases hr
            | some l =>
              rw [hn] at hr
              unfold finF at hr
              simp only [] at hr
              split at hr
              · have hr := Option.some.inj hr
                subst hr
                exact numsGo_bd _ _ l hn (by simp)
              · cases hr
set_option maxRecDepth 100000 in
set_option maxHeartbeats 4000000 in
theorem lineBack_walk (o : Int) (x y : ByteArray) (A : Option Addr) (n c : Nat) (l : List Int) (o' : Int) (x' y' : ByteArray) (B : Option Addr) (n' d : Nat) (m : List Int) (s : ByteArray) (w : World) (hW : Wz w)
    (hl : l.length = n) (hnc : n ≤ c) (hc : c ≤ maxLen) (hr : Rd w A n 1 (fun i => .int .i64 (l.getD i 0))) (hwl : ∀ z ∈ l, (Lit.int .i64 z).wf = true)
    (hm : m.length = n') (hnd : n' ≤ d) (hd : d ≤ maxLen) (hs : Rd w B n' 1 (fun i => .int .i64 (m.getD i 0))) (hwm : ∀ z ∈ m, (Lit.int .i64 z).wf = true)
    (_hsz : s.size ≤ maxLen) :
    Calls Tryd.prog 10 #[cmdV o x y (.slice A n c), cmdV o' x' y' (.slice B n' d), .string s] w fun e w' => e = .returned (.bool true) ∧ Below w.heap.size w w' := by
  have hI := its_of hl hnc hc hr
  have hJ := its_of hm hnd hd hs
  have hlb := wf_le hwl
  have hmb := wf_le hwm
  subst hl hm
  have hb0 := balloc (balloc0 w (.cells #[.int .i64 o, .string x, .string y, .slice A l.length c] 54)) (.cells #[.int .i64 o', .string x', .string y', .slice B m.length d] 54)
  have hB1 : Blk ((w.alloc (.cells #[.int .i64 o, .string x, .string y, .slice A l.length c] 54)).alloc (.cells #[.int .i64 o', .string x', .string y', .slice B m.length d] 54)) w.heap.size 54 #[.int .i64 o, .string x, .string y, .slice A l.length c] := (Blk.made w _ _).alloc _
  have hB2 : Blk ((w.alloc (.cells #[.int .i64 o, .string x, .string y, .slice A l.length c] 54)).alloc (.cells #[.int .i64 o', .string x', .string y', .slice B m.length d] 54)) (w.heap.size + 1) 54 #[.int .i64 o', .string x', .string y', .slice B m.length d] := Blk.made_at _ _ _ (by simp)
  generalize hW0 : (w.alloc (.cells #[.int .i64 o, .string x, .string y, .slice A l.length c] 54)).alloc (.cells #[.int .i64 o', .string x', .string y', .slice B m.length d] 54) = W0 at *
  have hz0 : W0.heap.size = w.heap.size + 2 := by rw [← hW0]; simp
  have hWW := hW.kept hb0
  have hII := hI.kept hb0
  have hJJ := hJ.kept hb0
  -- what holds in each later world
  have key := hide (fun (W : World) (h : Below W0.heap.size W0 W) => (⟨(hB1.kept h), (hB2.kept h), (hWW.kept h), (hII.kept h), (hJJ.kept h)⟩ : Blk W w.heap.size 54 #[.int .i64 o, .string x, .string y, .slice A l.length c] ∧ Blk W (w.heap.size + 1) 54 #[.int .i64 o', .string x', .string y', .slice B m.length d] ∧ Wz W ∧ Its W (.slice A l.length c) l ∧ Its W (.slice B m.length d) m))
  have hf1 := hide (fun (W : World) => law35_few (o, x, y, l) A c W)
  have hf2 := hide (fun (W : World) => law35_few (o', x', y', m) B d W)
  replace hb0 := hide hb0
  clear hW hI hJ hB1 hB2 hWW hII hJJ hr hs hwl hwm
  by_cases hfw : (fewF (o, x, y, l) = true ∧ fewF (o', x', y', m) = true) ∧ s.size ≤ 5000
  · obtain ⟨⟨e1, e2⟩, hs5⟩ := hfw
    rw [e1] at hf1
    rw [e2] at hf2
    have hl100 : l.length ≤ 100 := by
      unfold fewF at e1
      simp only [Bool.and_eq_true, decide_eq_true_eq] at e1
      exact e1.1
    have hm100 : m.length ≤ 100 := by
      unfold fewF at e2
      simp only [Bool.and_eq_true, decide_eq_true_eq] at e2
      exact e2.1
    have hs5' : ¬ (5000 : Int) < s.size := by omega
    have hpa := hide (fun (W : World) (hw : Wz W) (hi : Its W (.slice A l.length c) l) => line_print o x y l (.slice A l.length c) W hw hi (by omega) hlb)
    have hpb := hide (fun (W : World) (hw : Wz W) (hi : Its W (.slice B m.length d) m) => line_print o' x' y' m (.slice B m.length d) W hw hi (by omega) hmb)
    have hsm := hide (fun (W : World) (hi : Its W (.slice A l.length c) l) (hj : Its W (.slice B m.length d) m) => show Calls Tryd.prog 43 #[cmdV o x y (.slice A l.length c), cmdV o' x' y' (.slice B m.length d)] W (fun e w' => e = .returned (.bool (sameF (o, x, y, l) (o', x', y', m))) ∧ Below W.heap.size W w') from line_same (o, x, y, l) (o', x', y', m) (.slice A l.length c) (.slice B m.length d) W hi hj)
    have hsa := hide (fun (W : World) (v : Value) (hi : Its W v l) (hj : Its W (.slice A l.length c) l) => show Calls Tryd.prog 43 #[cmdV o x y v, cmdV o x y (.slice A l.length c)] W (fun e w' => e = .returned (.bool (sameF (o, x, y, l) (o, x, y, l))) ∧ Below W.heap.size W w') from line_same (o, x, y, l) (o, x, y, l) v (.slice A l.length c) W hi hj)
    rw [show sameF (o, x, y, l) (o, x, y, l) = true from decide_eq_true rfl] at hsa
    have hps := hide (fun (W : World) (hw : Wz W) => line_parse s W hw (by omega))
    have hpt := hide (fun (W : World) (hw : Wz W) (hz : (textL (o, x, y, l)).size ≤ 1407) => line_parse (textL (o, x, y, l)) W hw (by omega))
    have hbd := hide (parse_bd (s := s))
    have hal := hide (fun (W : World) (h : Below W0.heap.size W0 W) => alive35 W (key.out W h).2.2.1)
    have htp := hide (fun (q : Cmd) (h : parseF s = (q, 0)) (hh : s.size = 0 ∨ s.data.toList.head? ≠ some 35) => text_parse h hh)
    obtain ⟨cs, hcs⟩ : ∃ cs, Hid (parseF s = cs) := ⟨_, rfl⟩
    rw [hcs.out] at hps hbd htp
    obtain ⟨⟨so, sx, sy, sl⟩, se⟩ := cs
    clear e1 e2
    obtain ⟨p1, p2, p3, p4, p5⟩ := key.out W0 (Below.refl _ _)
    have a0 := p1.cell 0
    have a1 := p1.cell 1
    have a2 := p1.cell 2
    have a3 := p1.cell 3
    have b0 := p2.cell 0
    have b1 := p2.cell 1
    have b2 := p2.cell 2
    have b3 := p2.cell 3
    simp only [List.getElem?_toArray, List.getElem?_cons_zero, List.getElem?_cons_succ] at a0 a1 a2 a3 b0 b1 b2 b3
    go_enter Tryd.func10, Tryd.ntmps10
    go_wp2_with fail
    refine (hf1.out _).mono ?_
    rintro e w1 ⟨rfl, hb1⟩
    have k1 := hide hb1
    clear a0 a1 a2 a3 b0 b1 b2 b3 p1 p2 p3 p4 p5
    obtain ⟨p1, p2, p3, p4, p5⟩ := key.out w1 k1.out
    have a0 := p1.cell 0
    have a1 := p1.cell 1
    have a2 := p1.cell 2
    have a3 := p1.cell 3
    have b0 := p2.cell 0
    have b1 := p2.cell 1
    have b2 := p2.cell 2
    have b3 := p2.cell 3
    simp only [List.getElem?_toArray, List.getElem?_cons_zero, List.getElem?_cons_succ] at a0 a1 a2 a3 b0 b1 b2 b3
    replace p1 := hide p1
    replace p2 := hide p2
    replace p3 := hide p3
    replace p4 := hide p4
    replace p5 := hide p5
    clear hb1
    go_wp2_with fail
    refine (hf2.out _).mono ?_
    rintro e w2 ⟨rfl, hb2⟩
    have k2 := hide (bthen k1.out hb2)
    clear a0 a1 a2 a3 b0 b1 b2 b3 p1 p2 p3 p4 p5
    obtain ⟨p1, p2, p3, p4, p5⟩ := key.out w2 k2.out
    have a0 := p1.cell 0
    have a1 := p1.cell 1
    have a2 := p1.cell 2
    have a3 := p1.cell 3
    have b0 := p2.cell 0
    have b1 := p2.cell 1
    have b2 := p2.cell 2
    have b3 := p2.cell 3
    simp only [List.getElem?_toArray, List.getElem?_cons_zero, List.getElem?_cons_succ] at a0 a1 a2 a3 b0 b1 b2 b3
    replace p1 := hide p1
    replace p2 := hide p2
    replace p3 := hide p3
    replace p4 := hide p4
    replace p5 := hide p5
    clear hb2
    go_wp2_with fail
    refine (hps.out _ p3.out).mono ?_
    rintro e w3 ⟨⟨q1, q2, q3, v, rfl, f1, f2, f3, hv⟩, hb3⟩
    simp only [] at f1 f2 f3 hv
    obtain rfl := f1.symm
    obtain rfl := f2.symm
    obtain rfl := f3.symm
    obtain ⟨Av, cv, rfl, i1, i2, i3, i4⟩ := hv
    have hv0 : Its w3 (.slice Av sl.length cv) sl := ⟨Av, cv, rfl, i1, i2, i3, i4⟩
    have hD0 : Blk (w3.alloc (.cells #[.int .i64 so, .string sx, .string sy, .slice Av sl.length cv] 54)) w3.heap.size 54 #[.int .i64 so, .string sx, .string sy, .slice Av sl.length cv] := Blk.made _ _ _
    have hv1 := hide (hv0.kept (balloc0 w3 (.cells #[.int .i64 so, .string sx, .string sy, .slice Av sl.length cv] 54)))
    have k3 := hide (balloc (bthen k2.out hb3) (.cells #[.int .i64 so, .string sx, .string sy, .slice Av sl.length cv] 54))
    generalize hW4 : w3.alloc (.cells #[.int .i64 so, .string sx, .string sy, .slice Av sl.length cv] 54) = w4 at *
    clear a0 a1 a2 a3 b0 b1 b2 b3 p1 p2 p3 p4 p5
    obtain ⟨p1, p2, p3, p4, p5⟩ := key.out w4 k3.out
    have a0 := p1.cell 0
    have a1 := p1.cell 1
    have a2 := p1.cell 2
    have a3 := p1.cell 3
    have b0 := p2.cell 0
    have b1 := p2.cell 1
    have b2 := p2.cell 2
    have b3 := p2.cell 3
    simp only [List.getElem?_toArray, List.getElem?_cons_zero, List.getElem?_cons_succ] at a0 a1 a2 a3 b0 b1 b2 b3
    replace p1 := hide p1
    replace p2 := hide p2
    replace p3 := hide p3
    replace p4 := hide p4
    replace p5 := hide p5
    have d0 := hD0.cell 0
    have d1 := hD0.cell 1
    have d2 := hD0.cell 2
    have d3 := hD0.cell 3
    simp only [List.getElem?_toArray, List.getElem?_cons_zero, List.getElem?_cons_succ] at d0 d1 d2 d3
    replace hD0 := hide hD0
    clear hb3 i1 i2 i3 i4 hv0 hf1 hf2 hps
    by_cases hP : se = 0 ∧ (s.size = 0 ∨ s.data.toList.head? ≠ some 35)
    case' pos =>
      obtain ⟨rfl, hP⟩ := hP
      obtain ⟨hcr, htx⟩ := htp.out (so, sx, sy, sl) rfl hP
      simp only [] at hcr
      have hsl := (cmdR_op hcr).2.2.1
      have hpr := line_print so sx sy sl (.slice Av sl.length cv) w4 p3.out hv1.out (by omega) (by simpa using hbd.out)
      rw [print_ok (c := (so, sx, sy, sl)) hcr (by simpa using hbd.out), htx] at hpr
      have hrt := hide (fun (W : World) (hi : Its W (.slice Av sl.length cv) sl) => line_right so sx sy sl (.slice Av sl.length cv) W hi (by omega))
      rw [hcr] at hrt
      replace hpr := hide hpr
      have hss : (s.toList == s.toList) = true := by simp
      have hssn : (s.toList != s.toList) = false := by simp
      clear hcr htx
      have hPc : s = ⟨#[]⟩ ∨ (s.toList.isEmpty = false ∧ ∃ h : 0 < s.size, ((s[0].toNat : Int) != 35) = true) := by
        rcases Nat.eq_zero_or_pos s.size with h | h
        · exact .inl (str_ext (by rw [nil_of_size s (by omega)]))
        · refine .inr ⟨isEmpty_str h, h, ?_⟩
          have hh := hP.resolve_left (by omega)
          rw [head_at s h] at hh
          have : ¬ s[0].toNat = 35 := fun e => hh (by rw [Option.some_inj, ← UInt8.toNat_inj]; exact e)
          rw [bne_iff_ne]; omega
      clear hP
      rcases hPc with rfl | ⟨hemp, hs0, h35⟩
      all_goals
        go_wp2_with fail
        refine hpr.out.mono ?_
        rintro e w5 ⟨rfl, hb5⟩
        have k5 := hide (bthen k3.out hb5)
        have hv5 := hide (hv1.out.kept hb5)
        have hD5 := hD0.out.kept hb5
        clear d0 d1 d2 d3
        clear a0 a1 a2 a3 b0 b1 b2 b3 p1 p2 p3 p4 p5
        obtain ⟨p1, p2, p3, p4, p5⟩ := key.out w5 k5.out
        have a0 := p1.cell 0
        have a1 := p1.cell 1
        have a2 := p1.cell 2
        have a3 := p1.cell 3
        have b0 := p2.cell 0
        have b1 := p2.cell 1
        have b2 := p2.cell 2
        have b3 := p2.cell 3
        simp only [List.getElem?_toArray, List.getElem?_cons_zero, List.getElem?_cons_succ] at a0 a1 a2 a3 b0 b1 b2 b3
        replace p1 := hide p1
        replace p2 := hide p2
        replace p3 := hide p3
        replace p4 := hide p4
        replace p5 := hide p5
        have d0 := hD5.cell 0
        have d1 := hD5.cell 1
        have d2 := hD5.cell 2
        have d3 := hD5.cell 3
        simp only [List.getElem?_toArray, List.getElem?_cons_zero, List.getElem?_cons_succ] at d0 d1 d2 d3
        replace hD5 := hide hD5
        clear hb5 hpr
        go_wp2_with fail
        refine (hrt.out _ hv5.out).mono ?_
        rintro e w6 ⟨rfl, hb6⟩
        have k6 := hide (bthen k5.out hb6)
        clear a0 a1 a2 a3 b0 b1 b2 b3 p1 p2 p3 p4 p5
        obtain ⟨p1, p2, p3, p4, p5⟩ := key.out w6 k6.out
        have a0 := p1.cell 0
        have a1 := p1.cell 1
        have a2 := p1.cell 2
        have a3 := p1.cell 3
        have b0 := p2.cell 0
        have b1 := p2.cell 1
        have b2 := p2.cell 2
        have b3 := p2.cell 3
        simp only [List.getElem?_toArray, List.getElem?_cons_zero, List.getElem?_cons_succ] at a0 a1 a2 a3 b0 b1 b2 b3
        replace p1 := hide p1
        replace p2 := hide p2
        replace p3 := hide p3
        replace p4 := hide p4
        replace p5 := hide p5
        clear hb6 hrt hv5 hD5 d0 d1 d2 d3 k5 k3 hv1 hD0
        go_wp2_with fail
    case' neg =>
      have hPc : ((se == 0) = false) ∨ (se = 0 ∧ s.toList.isEmpty = false ∧ ∃ h : 0 < s.size, ((s[0].toNat : Int) != 35) = false) := by
        by_cases h0 : se = 0
        · refine .inr ⟨h0, ?_⟩
          have hz : ¬ s.size = 0 := fun h => hP ⟨h0, .inl h⟩
          have hp : 0 < s.size := by omega
          refine ⟨isEmpty_str hp, hp, ?_⟩
          have hh : ¬ s.data.toList.head? ≠ some 35 := fun h => hP ⟨h0, .inr h⟩
          rw [head_at s hp] at hh
          have hh := Decidable.not_not.1 hh
          rw [Option.some_inj, ← UInt8.toNat_inj] at hh
          rw [bne_eq_false_iff_eq]
          have e : (35 : UInt8).toNat = 35 := rfl
          omega
        · exact .inl (by simpa using h0)
      clear hP hD0 hv1 d0 d1 d2 d3
      have k6 := hide k3.out
      rcases hPc with hse | ⟨rfl, hemp, hs0, h35⟩
      all_goals
        go_wp2_with fail
    all_goals
      refine (hpa.out _ p3.out p4.out).mono ?_
      rintro e w7 ⟨rfl, hb7⟩
      have k7 := hide (bthen k6.out hb7)
      clear a0 a1 a2 a3 b0 b1 b2 b3 p1 p2 p3 p4 p5
      obtain ⟨p1, p2, p3, p4, p5⟩ := key.out w7 k7.out
      have a0 := p1.cell 0
      have a1 := p1.cell 1
      have a2 := p1.cell 2
      have a3 := p1.cell 3
      have b0 := p2.cell 0
      have b1 := p2.cell 1
      have b2 := p2.cell 2
      have b3 := p2.cell 3
      simp only [List.getElem?_toArray, List.getElem?_cons_zero, List.getElem?_cons_succ] at a0 a1 a2 a3 b0 b1 b2 b3
      replace p1 := hide p1
      replace p2 := hide p2
      replace p3 := hide p3
      replace p4 := hide p4
      replace p5 := hide p5
      clear hb7
      go_wp2_with fail
      refine (hpb.out _ p3.out p5.out).mono ?_
      rintro e w8 ⟨rfl, hb8⟩
      have k8 := hide (bthen k7.out hb8)
      clear a0 a1 a2 a3 b0 b1 b2 b3 p1 p2 p3 p4 p5
      obtain ⟨p1, p2, p3, p4, p5⟩ := key.out w8 k8.out
      have a0 := p1.cell 0
      have a1 := p1.cell 1
      have a2 := p1.cell 2
      have a3 := p1.cell 3
      have b0 := p2.cell 0
      have b1 := p2.cell 1
      have b2 := p2.cell 2
      have b3 := p2.cell 3
      simp only [List.getElem?_toArray, List.getElem?_cons_zero, List.getElem?_cons_succ] at a0 a1 a2 a3 b0 b1 b2 b3
      replace p1 := hide p1
      replace p2 := hide p2
      replace p3 := hide p3
      replace p4 := hide p4
      replace p5 := hide p5
      clear hb8
      cases hca : cmdR o x y l
      · have hqa : printF (o, x, y, l) = (⟨#[]⟩, 2) := print_no hca
        rw [hqa]
        generalize printF (o', x', y', m) = qb
        obtain ⟨ub, eb⟩ := qb
        clear hca hqa
        go_wp2_with (go_at_call 38; refine (hal.out _ k8.out).mono ?_; rintro e w13 ⟨rfl, hb13⟩; have k13 := hide (bthen k8.out hb13); clear hb13)
        go_ret
        exact ⟨rfl, bthen hb0.out k13.out⟩
      · have hqa : printF (o, x, y, l) = (textL (o, x, y, l), 0) := print_ok (c := (o, x, y, l)) hca hlb
        have hpq := hpt.out w8 p3.out (textL_size (c := (o, x, y, l)) hca hlb)
        have hpx := parse_text (c := (o, x, y, l)) hca hlb
        rw [hpx] at hpq
        rw [hqa]
        have hcase : (∃ t u : ByteArray, textL (o, x, y, l) = t ∧ (printF (o', x', y', m) = (u, 2) ∨ (printF (o', x', y', m) = (u, 0) ∧ ((sameF (o, x, y, l) (o', x', y', m) = true ∧ t = u) ∨ (sameF (o, x, y, l) (o', x', y', m) = false ∧ ¬ t = u))))) := by
          cases hcb : cmdR o' x' y' m
          · exact ⟨_, _, rfl, .inl (print_no hcb)⟩
          · refine ⟨_, _, rfl, .inr ⟨print_ok (c := (o', x', y', m)) hcb hmb, ?_⟩⟩
            have hpy := parse_text (c := (o', x', y', m)) hcb hmb
            by_cases hab : (o, x, y, l) = (o', x', y', m)
            · exact .inl ⟨decide_eq_true hab, by rw [hab]⟩
            · refine .inr ⟨decide_eq_false hab, fun e => hab ?_⟩
              rw [e, hpy] at hpx
              exact (congrArg Prod.fst hpx).symm
        obtain ⟨t, u, ht, hcase⟩ := hcase
        rw [ht] at hpq ⊢
        replace hpq := hide hpq
        clear hca hqa hpx ht hpa hpb hpt
        go_wp2_with fail
        refine hpq.out.mono ?_
        rintro e w9 ⟨⟨q1, q2, q3, v2, rfl, f1, f2, f3, hv⟩, hb9⟩
        simp only [] at f1 f2 f3 hv
        obtain rfl := f1.symm
        obtain rfl := f2.symm
        obtain rfl := f3.symm
        have hv2 := hv
        obtain ⟨A2, ca2, rfl, _, _, _, _⟩ := hv
        have hE := Blk.made w9 54 #[.int .i64 o, .string x, .string y, .slice A2 l.length ca2]
        have hv3 := hide (hv2.kept (balloc0 w9 (.cells #[.int .i64 o, .string x, .string y, .slice A2 l.length ca2] 54)))
        have k9 := hide (balloc (bthen k8.out hb9) (.cells #[.int .i64 o, .string x, .string y, .slice A2 l.length ca2] 54))
        generalize hW10 : w9.alloc (.cells #[.int .i64 o, .string x, .string y, .slice A2 l.length ca2] 54) = w10 at *
        clear a0 a1 a2 a3 b0 b1 b2 b3 p1 p2 p3 p4 p5
        obtain ⟨p1, p2, p3, p4, p5⟩ := key.out w10 k9.out
        have a0 := p1.cell 0
        have a1 := p1.cell 1
        have a2 := p1.cell 2
        have a3 := p1.cell 3
        have b0 := p2.cell 0
        have b1 := p2.cell 1
        have b2 := p2.cell 2
        have b3 := p2.cell 3
        simp only [List.getElem?_toArray, List.getElem?_cons_zero, List.getElem?_cons_succ] at a0 a1 a2 a3 b0 b1 b2 b3
        replace p1 := hide p1
        replace p2 := hide p2
        replace p3 := hide p3
        replace p4 := hide p4
        replace p5 := hide p5
        have d0 := hE.cell 0
        have d1 := hE.cell 1
        have d2 := hE.cell 2
        have d3 := hE.cell 3
        simp only [List.getElem?_toArray, List.getElem?_cons_zero, List.getElem?_cons_succ] at d0 d1 d2 d3
        clear hb9 hE hv2 hpq
        go_wp2_with fail
        refine (hsa.out _ _ hv3.out p4.out).mono ?_
        rintro e w11 ⟨rfl, hb11⟩
        have k11 := hide (bthen k9.out hb11)
        clear a0 a1 a2 a3 b0 b1 b2 b3 p1 p2 p3 p4 p5
        obtain ⟨p1, p2, p3, p4, p5⟩ := key.out w11 k11.out
        have a0 := p1.cell 0
        have a1 := p1.cell 1
        have a2 := p1.cell 2
        have a3 := p1.cell 3
        have b0 := p2.cell 0
        have b1 := p2.cell 1
        have b2 := p2.cell 2
        have b3 := p2.cell 3
        simp only [List.getElem?_toArray, List.getElem?_cons_zero, List.getElem?_cons_succ] at a0 a1 a2 a3 b0 b1 b2 b3
        replace p1 := hide p1
        replace p2 := hide p2
        replace p3 := hide p3
        replace p4 := hide p4
        replace p5 := hide p5
        clear hb11 hv3 d0 d1 d2 d3 hW10
        rcases hcase with hqb | ⟨hqb, hcase⟩
        · rw [hqb]
          clear hqb hsm
          go_wp2_with (go_at_call 38; refine (hal.out _ k11.out).mono ?_; rintro e w13 ⟨rfl, hb13⟩; have k13 := hide (bthen k11.out hb13); clear hb13)
          go_ret
          exact ⟨rfl, bthen hb0.out k13.out⟩
        · rw [hqb]
          clear hqb
          rcases hcase with ⟨hsf, rfl⟩ | ⟨hsf, htu⟩
          case' inl => have htt : (t.toList == t.toList) = true := by simp
          case' inr => have htt := str_ne htu
          case' inr => clear htu
          all_goals
            rw [hsf] at hsm
            clear hsf
            go_wp2_with (first
              | (go_at_call 43; refine (hsm.out _ p4.out p5.out).mono ?_; rintro e w12 ⟨rfl, hb12⟩; have k12 := hide (bthen k11.out hb12); clear hb12)
              | (go_at_call 38; refine (hal.out _ k12.out).mono ?_; rintro e w13 ⟨rfl, hb13⟩; have k13 := hide (bthen k12.out hb13); clear hb13))
            go_ret
            exact ⟨rfl, bthen hb0.out k13.out⟩
  · have hal := hide (fun (W : World) (h : Below W0.heap.size W0 W) => alive35 W (key.out W h).2.2.1)
    obtain ⟨p1, p2, p3, p4, p5⟩ := key.out W0 (Below.refl _ _)
    have a0 := p1.cell 0
    have a1 := p1.cell 1
    have a2 := p1.cell 2
    have a3 := p1.cell 3
    have b0 := p2.cell 0
    have b1 := p2.cell 1
    have b2 := p2.cell 2
    have b3 := p2.cell 3
    simp only [List.getElem?_toArray, List.getElem?_cons_zero, List.getElem?_cons_succ] at a0 a1 a2 a3 b0 b1 b2 b3
    clear p1 p2 p3 p4 p5
    cases e1 : fewF (o, x, y, l)
    · rw [e1] at hf1
      clear e1 hfw
      go_enter Tryd.func10, Tryd.ntmps10
      go_wp2_with fail
      refine (hf1.out _).mono ?_
      rintro e w1 ⟨rfl, hb1⟩
      have k1 := hide hb1
      clear hb1
      go_wp2_with fail
      refine (hal.out _ k1.out).mono ?_
      rintro e w3 ⟨rfl, hb3⟩
      have k3 := hide (bthen k1.out hb3)
      clear hb3
      go_wp2_with fail
      go_ret
      exact ⟨rfl, bthen hb0.out k3.out⟩
    · rw [e1] at hf1
      have hor : fewF (o', x', y', m) = false ∨ (fewF (o', x', y', m) = true ∧ (5000 : Int) < s.size) := by
        cases h : fewF (o', x', y', m)
        · exact .inl rfl
        · exact .inr ⟨rfl, by have : ¬ s.size ≤ 5000 := fun k => hfw ⟨⟨e1, h⟩, k⟩; omega⟩
      clear hfw e1
      rcases hor with e2 | ⟨e2, h5⟩
      all_goals
        rw [e2] at hf2
        clear e2
        go_enter Tryd.func10, Tryd.ntmps10
        go_wp2_with fail
        refine (hf1.out _).mono ?_
        rintro e w1 ⟨rfl, hb1⟩
        have k1 := hide hb1
        clear a0 a1 a2 a3 b0 b1 b2 b3
        obtain ⟨p1, p2, p3, p4, p5⟩ := key.out w1 k1.out
        have a0 := p1.cell 0
        have a1 := p1.cell 1
        have a2 := p1.cell 2
        have a3 := p1.cell 3
        have b0 := p2.cell 0
        have b1 := p2.cell 1
        have b2 := p2.cell 2
        have b3 := p2.cell 3
        simp only [List.getElem?_toArray, List.getElem?_cons_zero, List.getElem?_cons_succ] at a0 a1 a2 a3 b0 b1 b2 b3
        replace p1 := hide p1
        replace p2 := hide p2
        replace p3 := hide p3
        replace p4 := hide p4
        replace p5 := hide p5
        clear hb1
        go_wp2_with fail
        refine (hf2.out _).mono ?_
        rintro e w2 ⟨rfl, hb2⟩
        have k2 := hide (bthen k1.out hb2)
        clear hb2
        go_wp2_with fail
        refine (hal.out _ k2.out).mono ?_
        rintro e w3 ⟨rfl, hb3⟩
        have k3 := hide (bthen k2.out hb3)
        clear hb3
        go_wp2_with fail
        go_ret
        exact ⟨rfl, bthen hb0.out k3.out⟩
end Go.Proofs.YtcpakoobgcdekaaDoor

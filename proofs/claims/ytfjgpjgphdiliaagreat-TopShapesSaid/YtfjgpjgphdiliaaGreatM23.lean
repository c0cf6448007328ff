/- Part 23 of the proof: texts joined by this repo's tools/merge.py (TopC). By the prover of this repo. -/
import Derived.Test.YtfjgpjgphdiliaaGreatM22
set_option linter.unusedVariables false
set_option linter.unusedSimpArgs false
/- The law TopShapes: its walk, but for what is alive. By the prover of this repo. -/
namespace Go.Proofs.YtfjgpjgphdiliaaGreat
open Go.RowKit
open TwigM RollM StoM TopM

/-- What a round of the law holds. -/
structure ShAt (w wr : World) (B d p : Nat) (K kd L : Int) (l b : List Nd) (v : Value) (F : Nat → Prop) : Prop where
  dig : DigAt wr d p K kd L l F
  box : Blk wr B 35 #[.int .i64 L, v]
  nds : Nds wr v b
  inv : Inv K L l b 80
  bel : Below w.heap.size w wr
  low : w.heap.size ≤ B ∧ w.heap.size ≤ d ∧ w.heap.size ≤ p ∧ ∀ j, F j → w.heap.size ≤ j
  sep : ∀ j, v.ownBlock = some j → j < wr.heap.size ∧ ¬ F j ∧ j ≠ B
  ndB : d ≠ B ∧ p ≠ B ∧ ¬ F B
section
variable {w wr w3 w4 : World} {B d p d' p' : Nat} {K kd L L' : Int} {l b l' b' : List Nd} {v v' : Value} {F F' : Nat → Prop}
theorem ShAt.same (s : ShAt w wr B d p K kd L l b v F) (hb : Below wr.heap.size wr w3) : ShAt w w3 B d p K kd L l b v F :=
  ⟨s.dig.kept hb, s.box.kept hb, s.nds.kept hb, s.inv, s.bel.trans (hb.mono s.bel.size), s.low, fun j hj => by have := s.sep j hj; have := hb.size; exact ⟨by omega, (s.sep j hj).2⟩, s.ndB⟩
theorem ShAt.swap (s : ShAt w wr B d p K kd L l b v F) (hb : Below wr.heap.size wr w3) (h1 : DigAt w3 d' p' K kd L' l' F') (h2 : wr.heap.size ≤ d' ∧ wr.heap.size ≤ p' ∧ ∀ j, F' j → wr.heap.size ≤ j)
    (hn : Nds w3 v' b') (hv : ∀ j, v'.ownBlock = some j → j < w3.heap.size ∧ ¬ F' j ∧ j ≠ B) (hi : Inv K L' l' b' 80) (t : Turn (fun j => j = B) w3 w4) (hx : Blk w4 B 35 #[.int .i64 L', v']) : ShAt w w4 B d' p' K kd L' l' b' v' F' := by
  have hz := s.bel.size
  have hB := s.box.lt
  have ht := t.size
  have hl := s.low
  refine ⟨h1.off t (by omega) (by omega) fun j hj => by have := h2.2.2 j hj; omega, hx, hn.turned t fun j hj => (hv j hj).2.2, hi, (s.bel.trans (hb.mono hz)).trans (t.below w.heap.size (by have := hb.size; omega) fun j hj => by omega), ⟨hl.1, by omega, by omega, fun j hj => by have := h2.2.2 j hj; omega⟩, fun j hj => by have := hv j hj; exact ⟨by omega, this.2⟩, by omega, by omega, fun k => by have := h2.2.2 B k; omega⟩
end
def side (L K kd : Int) (A : Option Addr) (n c : Nat) : Value := .agg #[.int .i64 L, .int .i64 K, .int .i64 kd, .slice A n c]
abbrev four (a b c d : Int) : Value := .agg #[.int .i64 a, .int .i64 b, .int .i64 c, .int .i64 d]
/-- What Grow does of it. -/
theorem grow_ways {w wr : World} {B d p : Nat} {K kd L : Int} {l b : List Nd} {v : Value} {F : Nat → Prop} (s : ShAt w wr B d p K kd L l b v F) (M : Int) (hM : -9223372036854775808 ≤ M ∧ M ≤ 9223372036854775807) :
    ((L ≤ M ∧ M ≤ 48) ∧ Inv K M (growL (M - L) l) b 80 ∧ Calls Tryz.prog 7 #[.pointer (some ⟨d, 0, none⟩), .int .i64 M] wr fun e w' => ∃ d' p' F', e = .returned (.tuple #[.pointer (some ⟨d', 0, none⟩), .int .i64 0]) ∧ DigAt w' d' p' K kd M (growL (M - L) l) F' ∧ wr.heap.size ≤ d' ∧ wr.heap.size ≤ p' ∧ (∀ j, F' j → wr.heap.size ≤ j) ∧ Below wr.heap.size wr w') ∨
    (Calls Tryz.prog 7 #[.pointer (some ⟨d, 0, none⟩), .int .i64 M] wr fun e w' => e = .returned (.tuple #[.pointer none, .int .i64 2]) ∧ Below wr.heap.size wr w') := by
  obtain ⟨hL1, hL2⟩ := s.dig.pool.uni
  by_cases hno : M < L ∨ 48 < M ∨ kindB kd M = false
  · exact .inr (rec_grow_no d p K kd L l F wr M s.dig hM.1 hM.2 hno)
  · have h1 : L ≤ M := by omega
    have h2 : M ≤ 48 := by omega
    have hk : kindB kd M = true := by
      rcases Bool.eq_false_or_eq_true (kindB kd M) with k | k
      · exact k
      · exact absurd (.inr (.inr k)) hno
    have hi := s.inv.grow hL1 s.dig.k1 h1 h2
    have hm := grow_moved_of s.inv hL1 h1 h2
    refine .inl ⟨⟨h1, h2⟩, hi, rec_grow d p K kd L M l F wr s.dig h1 h2 hk (wf_map (f := fun id => (graftF id (M - L)).1) s.inv.canon s.inv.sum h2 fun q hq => ?_) (wf_of hi.canon hi.inU h2 hi.sum) (by have := hi.len; omega) (load_of hi (by omega) h2 s.dig.k1 s.dig.k2 hk)⟩
    obtain ⟨u1, u2⟩ := s.inv.inU q hq
    have hd := (lg_le u1 (show 0 ≤ L by omega)).2 u2
    obtain ⟨a1, a2, _, _, _⟩ := graft_facts hL1 u1 u2 (show 0 ≤ M - L by omega)
    rw [show L + (M - L) = M by omega] at a2
    rw [graft_of u1 (by omega) (by omega)]
    exact ⟨a1, a2⟩
/-- What Coarsen does of it. -/
theorem coar_ways {w wr : World} {B d p : Nat} {K kd L : Int} {l b : List Nd} {v : Value} {F : Nat → Prop} (s : ShAt w wr B d p K kd L l b v F) (k : Int) :
    ((0 ≤ k ∧ k < L) ∧ Inv K (L - k) (coarL (L - k) l) (BagM.imageF k b) 80 ∧ Calls Tryz.prog 10 #[.pointer (some ⟨d, 0, none⟩), .int .i64 k] wr fun e w' => ∃ d' p' F', e = .returned (.tuple #[.pointer (some ⟨d', 0, none⟩), .int .i64 0]) ∧ DigAt w' d' p' K kd (L - k) (coarL (L - k) l) F' ∧ wr.heap.size ≤ d' ∧ wr.heap.size ≤ p' ∧ (∀ j, F' j → wr.heap.size ≤ j) ∧ Below wr.heap.size wr w') ∨
    (Calls Tryz.prog 10 #[.pointer (some ⟨d, 0, none⟩), .int .i64 k] wr fun e w' => e = .returned (.tuple #[.pointer none, .int .i64 2]) ∧ Below wr.heap.size wr w') := by
  obtain ⟨hL1, hL2⟩ := s.dig.pool.uni
  by_cases hno : k < 0 ∨ L ≤ k
  · exact .inr (rec_coarsen_no d p K kd L l F wr k s.dig hno)
  · have h1 : 0 ≤ k := by omega
    have h2 : k < L := by omega
    have hi := s.inv.coarsen hL2 s.dig.k1 h1 h2
    have hm := coar_moved_of s.inv h1 h2
    have hk : kindB kd (L - k) = true := by
      have := s.dig.pool.two
      unfold kindB
      rcases this with ⟨e, q1, q2⟩ | ⟨e, q1, q2⟩
      · rw [e]; simp; omega
      · rw [e]; simp; omega
    refine .inl ⟨⟨h1, h2⟩, hi, rec_coarsen d p K kd L k l F wr s.dig h1 h2 (wf_map (f := fun id => (pruneF id (L - k)).1) (L' := L - k) s.inv.canon s.inv.sum (by omega) fun q hq => ?_) (wf_of hi.canon hi.inU (by omega) hi.sum) (by have := hi.len; omega) (load_of hi (by omega) (by omega) s.dig.k1 s.dig.k2 hk)⟩
    obtain ⟨u1, u2⟩ := s.inv.inU q hq
    have := prune_ends h1 h2 u1 u2
    exact ⟨this.1, this.2.1⟩
set_option maxRecDepth 100000 in
set_option maxHeartbeats 8000000 in
theorem shapes_main (hAl : ∀ W, Calls Tryz.prog 4 #[] W fun e w' => e = .returned (.bool true) ∧ Below W.heap.size W w')
    (L K kd : Int) (A A2 : Option Addr) (c c2 : Nat) (ops more : List TopM.Op) (s0 s1 s2 s3 y : Int) (w : World)
    (hr : Rd w A ops.length 3 (opc ops)) (hr2 : Rd w A2 more.length 3 (opc more)) (hwf : OpWf ops) (hwf2 : OpWf more)
    (hs0 : -9223372036854775808 ≤ s0 ∧ s0 ≤ 9223372036854775807) (hs1 : -9223372036854775808 ≤ s1 ∧ s1 ≤ 9223372036854775807) (hs2 : -9223372036854775808 ≤ s2 ∧ s2 ≤ 9223372036854775807) (hs3 : -9223372036854775808 ≤ s3 ∧ s3 ≤ 9223372036854775807)
    (n n2 : Nat) (hn0 : ops.length = n) (hn20 : more.length = n2) (g1 : ¬ 80 < n) (g2 : ¬ 80 < n2) (g4 : ¬ 48 < s0) (g5 : ¬ 48 < s2) (g3' : (kd = 1 ∧ L ≤ 10) ∨ (kd == 1) = false) (hcf : confB L K kd = true) :
    Calls Tryz.prog 3 #[.agg #[.int .i64 L, .int .i64 K, .int .i64 kd, .slice A n c], four s0 s1 s2 s3, .slice A2 n2 c2, .int .i64 y] w fun e w' => e = .returned (.bool true) ∧ Below w.heap.size w w' := by
  replace hAl := hide hAl
  have hn := hide hn0
  have hn2 := hide hn20
  clear hn0 hn20
  have hb0 := hide (balloc (balloc0 w (.cells #[.int .i64 L, .int .i64 K, .int .i64 kd, .slice A n c] 26)) (.cells #[.int .i64 s0, .int .i64 s1, .int .i64 s2, .int .i64 s3] 27))
  have hcf2 := hcf
  unfold confB at hcf2
  obtain ⟨hk, hK⟩ := Bool.and_eq_true_iff.1 hcf2
  have hK2 : 1 ≤ K ∧ K ≤ 1048576 := by simpa using hK
  obtain ⟨hK1, hK2⟩ := hK2
  have hkd : (kd = 1 ∧ L ≤ 10 ∧ 1 ≤ L) ∨ (kd = 2 ∧ 1 ≤ L ∧ L ≤ 48) := by
    unfold kindB at hk
    simp only [Bool.or_eq_true, Bool.and_eq_true, decide_eq_true_eq] at hk
    rcases g3' with ⟨k1, k2⟩ | k
    · left; omega
    · right
      have : kd ≠ 1 := by simpa using k
      omega
  have hL : 1 ≤ L ∧ L ≤ 48 := by omega
  obtain ⟨hL1, hL2⟩ := hL
  have hNew := hide (fun W => digest_new L K kd W hcf)
  have hAc := hide (fun (d p : Nat) (F : Nat → Prop) (W : World) (q : DigAt W d p K kd L [] F) (hF : ∀ j, F j → w.heap.size ≤ j) (hW : Below w.heap.size w W) =>
    accept_c d p K kd L [] [] (.slice none 0 0) F 0 A c ops W q (Nds.nil _) (Inv.nil hK1 0) (by rw [hn.out]; omega) (fun j hj => by cases hj) (hr.kept hW) (fun h0 g off e k => by
      obtain ⟨g', off', e', hg, -⟩ := hr h0
      rw [e'] at e
      injection e with e
      injection e with e1 e2
      subst e1
      have := hF _ k; omega) hwf)
  rw [hn.out] at hAc
  have hiv0 : Inv K L (accF K L ([], []) ops).1 (accF K L ([], []) ops).2 80 := by
    have := Inv.acc hL1 hK1 ops ([], []) 0 (Inv.nil hK1 0)
    exact this.more (by rw [hn.out]; omega)
  have hiv0 := hide hiv0
  generalize accF K L ([], []) ops = S0 at *
  clear hr hwf hcf hcf2 hk hK g3'
  unfold conf at hNew
  have bS : Blk ((w.alloc (.cells #[.int .i64 L, .int .i64 K, .int .i64 kd, .slice A n c] 26)).alloc (.cells #[.int .i64 s0, .int .i64 s1, .int .i64 s2, .int .i64 s3] 27)) w.heap.size 26 #[.int .i64 L, .int .i64 K, .int .i64 kd, .slice A n c] := (Blk.made w _ _).alloc _
  have bT : Blk ((w.alloc (.cells #[.int .i64 L, .int .i64 K, .int .i64 kd, .slice A n c] 26)).alloc (.cells #[.int .i64 s0, .int .i64 s1, .int .i64 s2, .int .i64 s3] 27)) (w.heap.size + 1) 27 #[.int .i64 s0, .int .i64 s1, .int .i64 s2, .int .i64 s3] := Blk.made_at _ _ _ (by simp)
  have bS := hide bS
  have bT := hide bT
  rcases hkd with ⟨rfl, g6, -⟩ | ⟨rfl, -, -⟩
  · go_enter Tryz.func3, Tryz.ntmps3
    go_wp2_with fail
    refine Calls.mono (hNew.out _) ?_
    rintro e w1 ⟨d, p, F, rfl, q1, q2, q3, q4, hb1⟩
    have bS1 := bS.out.kept hb1
    have bT1 := bT.out.kept hb1
    have r0 := bS1.cell 0
    have r3 := bS1.cell 3
    have r4 := bS1.lt
    have t0 := bT1.cell 0
    have t1 := bT1.cell 1
    have t2 := bT1.cell 2
    have t3 := bT1.cell 3
    have t4 := bT1.lt
    have hbw1 := hide (bthen hb0.out hb1)
    have hz0 := hb0.out.size
    have q1 := hide q1
    have q4 := hide q4
    have bT1 := hide bT1
    clear bS1
    go_wp2_with fail
    refine Calls.mono (hAc.out d p F w1 q1.out (fun j hj => by have := q4.out j hj; omega) hbw1.out) ?_
    rintro e w2 ⟨v, F2, rfl, h1, h2, h3, h4, h5⟩
    have hbw2 : Below w.heap.size w w2 := hbw1.out.trans (h3.below _ hbw1.out.size fun j hj k => by have := q4.out j k; omega)
    have bT2 := bT1.out.turned h3 fun k => by have := q4.out _ k; have := bT.out.lt; omega
    clear t0 t1 t2 t3 t4 r0 r3 r4
    have t0 := bT2.cell 0
    have t1 := bT2.cell 1
    have t2 := bT2.cell 2
    have t3 := bT2.cell 3
    have t4 := bT2.lt
    have hst : Hid (ShAt w (w2.alloc (.cells #[.int .i64 L, v] 35)) w2.heap.size d p K 1 L S0.1 S0.2 v F2) := by
      have hz2 := hbw2.size
      have hlt := h1.lt
      refine ⟨h1.kept (balloc0 _ _), Blk.made _ _ _, h2.kept (balloc0 _ _), hiv0.out, hbw2.trans ((balloc0 w2 _).mono hz2), ⟨hz2, by omega, by omega, fun j hj => ?_⟩, fun j hj => ?_, by omega, by omega, fun k => by have := hlt.2.2 _ k; omega⟩
      · rcases h4 j hj with k | k
        · have := q4.out j k; omega
        · have := hbw1.out.size; omega
      · have := h5 j hj
        exact ⟨by simp; omega, this.2.1, by omega⟩
    obtain ⟨Av, cv, rfl, -, -, -, -⟩ := h2
    generalize S0.2.length = nb at *
    clear h1 h3 h4 h5 hbw2 bT2
    go_wp2_with fail
    have hBdef : ∃ B, w2.heap.size = B := ⟨_, rfl⟩
    obtain ⟨B, hB⟩ := hBdef
    rw [hB] at hst
    generalize (w2.alloc (.cells #[.int .i64 L, .slice Av nb cv] 35)) = wS at *
    rw [hB]
    clear hB
    go_loopw [9, 76] (fun dv kv wr => ∃ (i d p : Nat) (L1 : Int) (l b : List Nd) (v : Value) (F : Nat → Prop), dv = .pointer (some ⟨d, 0, none⟩) ∧ kv = .int .i64 i ∧ i ≤ 4 ∧ Hid (ShAt w wr B d p K 1 L1 l b v F)) (fun _ kv _ => 4 - (intOf kv).toNat)
    case atStart => exact ⟨0, d, p, L, S0.1, S0.2, _, F2, rfl, rfl, by omega, hst⟩
    case round =>
      clear hst hAc q1 q4 hNew hiv0 q2 q3 bT1 bT bS hb1 t0 t1 t2 t3 t4 hb0 hbw1
      obtain ⟨i, d, p, L1, l, b, v, F, rfl, rfl, hi4, hs⟩ := hrel
      obtain ⟨hL3, hL4⟩ := hs.out.dig.pool.uni
      have hnd := hs.out.nds
      obtain ⟨Av, cv, rfl, -, -, -, -⟩ := hnd
      by_cases hi : i < 4
      · have hi5 : i = 0 ∨ i = 1 ∨ i = 2 ∨ i = 3 := by omega
        rcases hi5 with rfl | rfl | rfl | rfl
        · have hix : ∀ W : World, (Instr.index 27 (.agg #[.int .i64 s0, .int .i64 s1, .int .i64 s2, .int .i64 s3]) (.int .i64 0)).run Tryz.prog W = .ok (.int .i64 s0) W := fun _ => by kernel_rfl
          rcases grow_ways hs.out s0 hs0 with ⟨⟨k1, k2⟩, hiv, hG⟩ | hG
          · have hG := hide hG
            have hiv := hide hiv
            go_wp2_with fail
            refine Calls.mono hG.out ?_
            rintro e w2 ⟨d', p', F', rfl, q1, q2, q3, q4, hb2⟩
            have hq1 := hide q1
            have hq4 := hide q4
            have hs2 := hide (hs.out.same hb2)
            have hb2h := hide hb2
            clear q1 q4 hb2
            have hCf := hide (digest_conf d p K 1 L1 l F w2 hs2.out.dig)
            unfold conf at hCf
            have hfld : ∀ W : World, (Instr.field 23 (.agg #[.int .i64 L1, .int .i64 K, .int .i64 1]) 2).run Tryz.prog W = .ok (.int .i64 1) W := fun _ => by kernel_rfl
            go_wp2_with fail
            refine Calls.mono hCf.out ?_
            rintro e w3 ⟨rfl, hb3⟩
            have hs3 := hide (hs2.out.same hb3)
            have hb3h := hide (hb2h.out.trans (hb3.mono hb2h.out.size))
            have hq3 := hide (hq1.out.kept hb3)
            clear hb3
            by_cases h10 : s0 ≤ 10
            · have bx3 := hs3.out.box
              have c0 := bx3.cell 0
              have c1 := bx3.cell 1
              have c2 := bx3.lt
              have c3 := bx3.free 0
              have c4 := bx3.free 1
              clear bx3
              have hWd := hide (BG.rwider_c s0 L1 b (.slice Av b.length cv) w3 hs3.out.nds fun j hj => (hs3.out.sep j hj).1)
              have hsl := hide hs3.out.sep
              go_wp2_with fail
              refine Calls.mono hWd.out ?_
              rintro e w4 ⟨hb4, hw⟩
              rcases hw with ⟨-, rfl, hn4⟩ | ⟨hbad, -⟩
              case inr => omega
              have hs4 := hide (hs3.out.same hb4)
              have hb4h := hide (hb3h.out.trans (hb4.mono hb3h.out.size))
              have hq4' := hide (hq3.out.kept hb4)
              have hn4 := hide hn4
              clear c0 c1 c2 c3 c4 hb4
              have bx4 := hs4.out.box
              have c0 := bx4.cell 0
              have c1 := bx4.cell 1
              have c2 := bx4.lt
              have c3 := bx4.free 0
              have c4 := bx4.free 1
              clear bx4
              go_wp2_with fail
              have bZ := Blk.made w4 35 #[.int .i64 s0, .slice Av b.length cv]
              have z0 := bZ.cell 0
              have z1 := bZ.cell 1
              have z2 := bZ.lt
              have hs5 := hide (hs4.out.same (balloc0 w4 (.cells #[.int .i64 s0, .slice Av b.length cv] 35)))
              have hb5h := hide (hb4h.out.trans ((balloc0 w4 (.cells #[.int .i64 s0, .slice Av b.length cv] 35)).mono hb4h.out.size))
              have hq5 := hide (hq4'.out.kept (balloc0 w4 (.cells #[.int .i64 s0, .slice Av b.length cv] 35)))
              have hn5 := hide (hn4.out.kept (balloc0 w4 (.cells #[.int .i64 s0, .slice Av b.length cv] 35)))
              clear c0 c1 c2 c3 c4 bZ
              have bx5 := hs5.out.box
              have c0 := bx5.cell 0
              have c1 := bx5.cell 1
              have c2 := bx5.lt
              have c3 := bx5.free 0
              have c4 := bx5.free 1
              clear bx5
              generalize (w4.alloc (.cells #[.int .i64 s0, .slice Av b.length cv] 35)) = w5 at *
              have hsN : Hid (ShAt w (((w5.setCell ⟨B, 0, none⟩ (.int .i64 (s0))).setCell ⟨B, 1, none⟩ (.slice Av b.length cv)).drew) B d' p' K 1 (s0) (growL (s0 - L1) l) b (.slice Av b.length cv) F') := by
                refine hs.out.swap hb5h.out hq5.out ⟨q2, q3, hq4.out⟩ hn5.out (fun j hj => by have a1 := hs.out.sep j hj; have a2 := hb5h.out.size; exact ⟨by omega, fun k => (by have := hq4.out j k; omega), a1.2.2⟩) hiv.out (w4 := ((w5.setCell ⟨B, 0, none⟩ (.int .i64 (s0))).setCell ⟨B, 1, none⟩ (.slice Av b.length cv)).drew) ?_ ?_
                · exact ((Turn.setCell w5 (fun j => j = B) ⟨B, 0, none⟩ (.int .i64 (s0)) rfl).trans (Turn.setCell _ (fun j => j = B) ⟨B, 1, none⟩ (.slice Av b.length cv) rfl) fun _ _ h => h).drewN 1
                · have := ((hs5.out.box.set 0 (.int .i64 (s0))).set 1 (.slice Av b.length cv)).drew
                  simpa using this
              go_region
              clear c0 c1 c2 c3 c4 z0 z1 z2
              generalize ((w5.setCell ⟨B, 0, none⟩ (.int .i64 (s0))).setCell ⟨B, 1, none⟩ (.slice Av b.length cv)).drew = w6 at *
              have hSn := hide (stands_c d' p' K 1 (s0) y (growL (s0 - L1) l) b (.slice Av b.length cv) F' 80 _ hsN.out.dig hsN.out.nds hsN.out.inv (by omega))
              have bx8 := hsN.out.box
              have c0 := bx8.cell 0
              have c1 := bx8.cell 1
              have c2 := bx8.lt
              have c3 := bx8.free 0
              have c4 := bx8.free 1
              clear bx8
              go_wp2_with fail
              refine Calls.mono hSn.out ?_
              rintro e w9 ⟨rfl, hb9⟩
              have hs9 := hide (hsN.out.same hb9)
              clear c0 c1 c2 c3 c4 hb9
              go_wp2_with fail
              go_roundw
              case rel => exact ⟨1, d', p', (s0), (growL (s0 - L1) l), b, (.slice Av b.length cv), F', rfl, by go_num, by omega, hs9⟩
              case measure => simp [intOf]
            · have hSn := hide (stands_c d p K 1 L1 y l b (.slice Av b.length cv) F 80 _ hs3.out.dig hs3.out.nds hs3.out.inv (by omega))
              have bx8 := hs3.out.box
              have c0 := bx8.cell 0
              have c1 := bx8.cell 1
              have c2 := bx8.lt
              have c3 := bx8.free 0
              have c4 := bx8.free 1
              clear bx8
              go_wp2_with fail
              refine Calls.mono hSn.out ?_
              rintro e w9 ⟨rfl, hb9⟩
              have hs9 := hide (hs3.out.same hb9)
              clear c0 c1 c2 c3 c4 hb9
              go_wp2_with fail
              go_roundw
              case rel => exact ⟨1, d, p, L1, l, b, (.slice Av b.length cv), F, rfl, by go_num, by omega, hs9⟩
              case measure => simp [intOf]
          · have hG := hide hG
            go_wp2_with fail
            refine Calls.mono hG.out ?_
            rintro e w2 ⟨rfl, hb2⟩
            have hs3 := hide (hs.out.same hb2)
            clear hb2
            have hSn := hide (stands_c d p K 1 L1 y l b (.slice Av b.length cv) F 80 _ hs3.out.dig hs3.out.nds hs3.out.inv (by omega))
            have bx8 := hs3.out.box
            have c0 := bx8.cell 0
            have c1 := bx8.cell 1
            have c2 := bx8.lt
            have c3 := bx8.free 0
            have c4 := bx8.free 1
            clear bx8
            go_wp2_with fail
            refine Calls.mono hSn.out ?_
            rintro e w9 ⟨rfl, hb9⟩
            have hs9 := hide (hs3.out.same hb9)
            clear c0 c1 c2 c3 c4 hb9
            go_wp2_with fail
            go_roundw
            case rel => exact ⟨1, d, p, L1, l, b, (.slice Av b.length cv), F, rfl, by go_num, by omega, hs9⟩
            case measure => simp [intOf]
        · have hix : ∀ W : World, (Instr.index 27 (.agg #[.int .i64 s0, .int .i64 s1, .int .i64 s2, .int .i64 s3]) (.int .i64 1)).run Tryz.prog W = .ok (.int .i64 s1) W := fun _ => by kernel_rfl
          rcases coar_ways hs.out s1 with ⟨⟨k1, k2⟩, hiv, hG⟩ | hG
          · have hG := hide hG
            have hiv := hide hiv
            go_wp2_with fail
            refine Calls.mono hG.out ?_
            rintro e w2 ⟨d', p', F', rfl, q1, q2, q3, q4, hb2⟩
            have hq1 := hide q1
            have hq4 := hide q4
            have hs2 := hide (hs.out.same hb2)
            have hb2h := hide hb2
            clear q1 q4 hb2
            have bx3 := hs2.out.box
            have c0 := bx3.cell 0
            have c1 := bx3.cell 1
            have c2 := bx3.lt
            have c3 := bx3.free 0
            have c4 := bx3.free 1
            clear bx3
            have hIm := hide (BG.rimage_yes s1 L1 (.slice Av b.length cv) b w2 hs2.out.nds hs2.out.inv.ok hs2.out.inv.inb (by have := hs2.out.inv.blen; omega) ⟨hL3, hL4⟩ ⟨k1, k2⟩)
            go_wp2_with fail
            refine Calls.mono hIm.out ?_
            rintro e w4 ⟨u, rfl, hn4, hb4, hu4⟩
            have hs4 := hide (hs2.out.same hb4)
            have hb4h := hide (hb2h.out.trans (hb4.mono hb2h.out.size))
            have hq4' := hide (hq1.out.kept hb4)
            have hvo := hide (fun j (hj : u.ownBlock = some j) => (show j < w4.heap.size ∧ ¬ F' j ∧ j ≠ B from by have a1 := hu4 j hj; have a2 := hs2.out.box.lt; exact ⟨a1.1, fun k => (by have := hq1.out.lt.2.2 j k; omega), by omega⟩))
            have hn4h := hide hn4
            obtain ⟨Au, cu, rfl, -, -, -, -⟩ := hn4
            clear c0 c1 c2 c3 c4 hb4 hu4
            have bx4 := hs4.out.box
            have c0 := bx4.cell 0
            have c1 := bx4.cell 1
            have c2 := bx4.lt
            have c3 := bx4.free 0
            have c4 := bx4.free 1
            clear bx4
            go_wp2_with fail
            have bZ := Blk.made w4 35 #[.int .i64 (L1 - s1), (.slice Au (BagM.imageF s1 b).length cu)]
            have z0 := bZ.cell 0
            have z1 := bZ.cell 1
            have z2 := bZ.lt
            have hs5 := hide (hs4.out.same (balloc0 w4 (.cells #[.int .i64 (L1 - s1), (.slice Au (BagM.imageF s1 b).length cu)] 35)))
            have hb5h := hide (hb4h.out.trans ((balloc0 w4 (.cells #[.int .i64 (L1 - s1), (.slice Au (BagM.imageF s1 b).length cu)] 35)).mono hb4h.out.size))
            have hq5 := hide (hq4'.out.kept (balloc0 w4 (.cells #[.int .i64 (L1 - s1), (.slice Au (BagM.imageF s1 b).length cu)] 35)))
            have hn5 := hide (hn4h.out.kept (balloc0 w4 (.cells #[.int .i64 (L1 - s1), (.slice Au (BagM.imageF s1 b).length cu)] 35)))
            have hvo := hide (fun j hj => (show j < (w4.alloc (.cells #[.int .i64 (L1 - s1), (.slice Au (BagM.imageF s1 b).length cu)] 35)).heap.size ∧ ¬ F' j ∧ j ≠ B from by have a1 := hvo.out j hj; exact ⟨by simp; omega, a1.2⟩))
            clear c0 c1 c2 c3 c4 bZ
            have bx5 := hs5.out.box
            have c0 := bx5.cell 0
            have c1 := bx5.cell 1
            have c2 := bx5.lt
            have c3 := bx5.free 0
            have c4 := bx5.free 1
            clear bx5
            generalize (w4.alloc (.cells #[.int .i64 (L1 - s1), (.slice Au (BagM.imageF s1 b).length cu)] 35)) = w5 at *
            have hsN : Hid (ShAt w (((w5.setCell ⟨B, 0, none⟩ (.int .i64 (L1 - s1))).setCell ⟨B, 1, none⟩ (.slice Au (BagM.imageF s1 b).length cu)).drew) B d' p' K 1 (L1 - s1) (coarL (L1 - s1) l) (BagM.imageF s1 b) (.slice Au (BagM.imageF s1 b).length cu) F') := by
              refine hs.out.swap hb5h.out hq5.out ⟨q2, q3, hq4.out⟩ hn5.out (fun j hj => by have := hvo.out j hj; exact ⟨this.1, this.2.1, this.2.2⟩) hiv.out (w4 := ((w5.setCell ⟨B, 0, none⟩ (.int .i64 (L1 - s1))).setCell ⟨B, 1, none⟩ (.slice Au (BagM.imageF s1 b).length cu)).drew) ?_ ?_
              · exact ((Turn.setCell w5 (fun j => j = B) ⟨B, 0, none⟩ (.int .i64 (L1 - s1)) rfl).trans (Turn.setCell _ (fun j => j = B) ⟨B, 1, none⟩ (.slice Au (BagM.imageF s1 b).length cu) rfl) fun _ _ h => h).drewN 1
              · have := ((hs5.out.box.set 0 (.int .i64 (L1 - s1))).set 1 (.slice Au (BagM.imageF s1 b).length cu)).drew
                simpa using this
            go_region
            clear c0 c1 c2 c3 c4 z0 z1 z2
            generalize ((w5.setCell ⟨B, 0, none⟩ (.int .i64 (L1 - s1))).setCell ⟨B, 1, none⟩ (.slice Au (BagM.imageF s1 b).length cu)).drew = w6 at *
            have hSn := hide (stands_c d' p' K 1 (L1 - s1) y (coarL (L1 - s1) l) (BagM.imageF s1 b) (.slice Au (BagM.imageF s1 b).length cu) F' 80 _ hsN.out.dig hsN.out.nds hsN.out.inv (by omega))
            have bx8 := hsN.out.box
            have c0 := bx8.cell 0
            have c1 := bx8.cell 1
            have c2 := bx8.lt
            have c3 := bx8.free 0
            have c4 := bx8.free 1
            clear bx8
            go_wp2_with fail
            refine Calls.mono hSn.out ?_
            rintro e w9 ⟨rfl, hb9⟩
            have hs9 := hide (hsN.out.same hb9)
            clear c0 c1 c2 c3 c4 hb9
            go_wp2_with fail
            go_roundw
            case rel => exact ⟨2, d', p', (L1 - s1), (coarL (L1 - s1) l), (BagM.imageF s1 b), (.slice Au (BagM.imageF s1 b).length cu), F', rfl, by go_num, by omega, hs9⟩
            case measure => simp [intOf]
          · have hG := hide hG
            go_wp2_with fail
            refine Calls.mono hG.out ?_
            rintro e w2 ⟨rfl, hb2⟩
            have hs3 := hide (hs.out.same hb2)
            clear hb2
            have hSn := hide (stands_c d p K 1 L1 y l b (.slice Av b.length cv) F 80 _ hs3.out.dig hs3.out.nds hs3.out.inv (by omega))
            have bx8 := hs3.out.box
            have c0 := bx8.cell 0
            have c1 := bx8.cell 1
            have c2 := bx8.lt
            have c3 := bx8.free 0
            have c4 := bx8.free 1
            clear bx8
            go_wp2_with fail
            refine Calls.mono hSn.out ?_
            rintro e w9 ⟨rfl, hb9⟩
            have hs9 := hide (hs3.out.same hb9)
            clear c0 c1 c2 c3 c4 hb9
            go_wp2_with fail
            go_roundw
            case rel => exact ⟨2, d, p, L1, l, b, (.slice Av b.length cv), F, rfl, by go_num, by omega, hs9⟩
            case measure => simp [intOf]
        · have hix : ∀ W : World, (Instr.index 27 (.agg #[.int .i64 s0, .int .i64 s1, .int .i64 s2, .int .i64 s3]) (.int .i64 2)).run Tryz.prog W = .ok (.int .i64 s2) W := fun _ => by kernel_rfl
          rcases grow_ways hs.out s2 hs2 with ⟨⟨k1, k2⟩, hiv, hG⟩ | hG
          · have hG := hide hG
            have hiv := hide hiv
            go_wp2_with fail
            refine Calls.mono hG.out ?_
            rintro e w2 ⟨d', p', F', rfl, q1, q2, q3, q4, hb2⟩
            have hq1 := hide q1
            have hq4 := hide q4
            have hs2 := hide (hs.out.same hb2)
            have hb2h := hide hb2
            clear q1 q4 hb2
            have hCf := hide (digest_conf d p K 1 L1 l F w2 hs2.out.dig)
            unfold conf at hCf
            have hfld : ∀ W : World, (Instr.field 23 (.agg #[.int .i64 L1, .int .i64 K, .int .i64 1]) 2).run Tryz.prog W = .ok (.int .i64 1) W := fun _ => by kernel_rfl
            go_wp2_with fail
            refine Calls.mono hCf.out ?_
            rintro e w3 ⟨rfl, hb3⟩
            have hs3 := hide (hs2.out.same hb3)
            have hb3h := hide (hb2h.out.trans (hb3.mono hb2h.out.size))
            have hq3 := hide (hq1.out.kept hb3)
            clear hb3
            by_cases h10 : s2 ≤ 10
            · have bx3 := hs3.out.box
              have c0 := bx3.cell 0
              have c1 := bx3.cell 1
              have c2 := bx3.lt
              have c3 := bx3.free 0
              have c4 := bx3.free 1
              clear bx3
              have hWd := hide (BG.rwider_c s2 L1 b (.slice Av b.length cv) w3 hs3.out.nds fun j hj => (hs3.out.sep j hj).1)
              have hsl := hide hs3.out.sep
              go_wp2_with fail
              refine Calls.mono hWd.out ?_
              rintro e w4 ⟨hb4, hw⟩
              rcases hw with ⟨-, rfl, hn4⟩ | ⟨hbad, -⟩
              case inr => omega
              have hs4 := hide (hs3.out.same hb4)
              have hb4h := hide (hb3h.out.trans (hb4.mono hb3h.out.size))
              have hq4' := hide (hq3.out.kept hb4)
              have hn4 := hide hn4
              clear c0 c1 c2 c3 c4 hb4
              have bx4 := hs4.out.box
              have c0 := bx4.cell 0
              have c1 := bx4.cell 1
              have c2 := bx4.lt
              have c3 := bx4.free 0
              have c4 := bx4.free 1
              clear bx4
              go_wp2_with fail
              have bZ := Blk.made w4 35 #[.int .i64 s2, .slice Av b.length cv]
              have z0 := bZ.cell 0
              have z1 := bZ.cell 1
              have z2 := bZ.lt
              have hs5 := hide (hs4.out.same (balloc0 w4 (.cells #[.int .i64 s2, .slice Av b.length cv] 35)))
              have hb5h := hide (hb4h.out.trans ((balloc0 w4 (.cells #[.int .i64 s2, .slice Av b.length cv] 35)).mono hb4h.out.size))
              have hq5 := hide (hq4'.out.kept (balloc0 w4 (.cells #[.int .i64 s2, .slice Av b.length cv] 35)))
              have hn5 := hide (hn4.out.kept (balloc0 w4 (.cells #[.int .i64 s2, .slice Av b.length cv] 35)))
              clear c0 c1 c2 c3 c4 bZ
              have bx5 := hs5.out.box
              have c0 := bx5.cell 0
              have c1 := bx5.cell 1
              have c2 := bx5.lt
              have c3 := bx5.free 0
              have c4 := bx5.free 1
              clear bx5
              generalize (w4.alloc (.cells #[.int .i64 s2, .slice Av b.length cv] 35)) = w5 at *
              have hsN : Hid (ShAt w (((w5.setCell ⟨B, 0, none⟩ (.int .i64 (s2))).setCell ⟨B, 1, none⟩ (.slice Av b.length cv)).drew) B d' p' K 1 (s2) (growL (s2 - L1) l) b (.slice Av b.length cv) F') := by
                refine hs.out.swap hb5h.out hq5.out ⟨q2, q3, hq4.out⟩ hn5.out (fun j hj => by have a1 := hs.out.sep j hj; have a2 := hb5h.out.size; exact ⟨by omega, fun k => (by have := hq4.out j k; omega), a1.2.2⟩) hiv.out (w4 := ((w5.setCell ⟨B, 0, none⟩ (.int .i64 (s2))).setCell ⟨B, 1, none⟩ (.slice Av b.length cv)).drew) ?_ ?_
                · exact ((Turn.setCell w5 (fun j => j = B) ⟨B, 0, none⟩ (.int .i64 (s2)) rfl).trans (Turn.setCell _ (fun j => j = B) ⟨B, 1, none⟩ (.slice Av b.length cv) rfl) fun _ _ h => h).drewN 1
                · have := ((hs5.out.box.set 0 (.int .i64 (s2))).set 1 (.slice Av b.length cv)).drew
                  simpa using this
              go_region
              clear c0 c1 c2 c3 c4 z0 z1 z2
              generalize ((w5.setCell ⟨B, 0, none⟩ (.int .i64 (s2))).setCell ⟨B, 1, none⟩ (.slice Av b.length cv)).drew = w6 at *
              have hSn := hide (stands_c d' p' K 1 (s2) y (growL (s2 - L1) l) b (.slice Av b.length cv) F' 80 _ hsN.out.dig hsN.out.nds hsN.out.inv (by omega))
              have bx8 := hsN.out.box
              have c0 := bx8.cell 0
              have c1 := bx8.cell 1
              have c2 := bx8.lt
              have c3 := bx8.free 0
              have c4 := bx8.free 1
              clear bx8
              go_wp2_with fail
              refine Calls.mono hSn.out ?_
              rintro e w9 ⟨rfl, hb9⟩
              have hs9 := hide (hsN.out.same hb9)
              clear c0 c1 c2 c3 c4 hb9
              go_wp2_with fail
              go_roundw
              case rel => exact ⟨3, d', p', (s2), (growL (s2 - L1) l), b, (.slice Av b.length cv), F', rfl, by go_num, by omega, hs9⟩
              case measure => simp [intOf]
            · have hSn := hide (stands_c d p K 1 L1 y l b (.slice Av b.length cv) F 80 _ hs3.out.dig hs3.out.nds hs3.out.inv (by omega))
              have bx8 := hs3.out.box
              have c0 := bx8.cell 0
              have c1 := bx8.cell 1
              have c2 := bx8.lt
              have c3 := bx8.free 0
              have c4 := bx8.free 1
              clear bx8
              go_wp2_with fail
              refine Calls.mono hSn.out ?_
              rintro e w9 ⟨rfl, hb9⟩
              have hs9 := hide (hs3.out.same hb9)
              clear c0 c1 c2 c3 c4 hb9
              go_wp2_with fail
              go_roundw
              case rel => exact ⟨3, d, p, L1, l, b, (.slice Av b.length cv), F, rfl, by go_num, by omega, hs9⟩
              case measure => simp [intOf]
          · have hG := hide hG
            go_wp2_with fail
            refine Calls.mono hG.out ?_
            rintro e w2 ⟨rfl, hb2⟩
            have hs3 := hide (hs.out.same hb2)
            clear hb2
            have hSn := hide (stands_c d p K 1 L1 y l b (.slice Av b.length cv) F 80 _ hs3.out.dig hs3.out.nds hs3.out.inv (by omega))
            have bx8 := hs3.out.box
            have c0 := bx8.cell 0
            have c1 := bx8.cell 1
            have c2 := bx8.lt
            have c3 := bx8.free 0
            have c4 := bx8.free 1
            clear bx8
            go_wp2_with fail
            refine Calls.mono hSn.out ?_
            rintro e w9 ⟨rfl, hb9⟩
            have hs9 := hide (hs3.out.same hb9)
            clear c0 c1 c2 c3 c4 hb9
            go_wp2_with fail
            go_roundw
            case rel => exact ⟨3, d, p, L1, l, b, (.slice Av b.length cv), F, rfl, by go_num, by omega, hs9⟩
            case measure => simp [intOf]
        · have hix : ∀ W : World, (Instr.index 27 (.agg #[.int .i64 s0, .int .i64 s1, .int .i64 s2, .int .i64 s3]) (.int .i64 3)).run Tryz.prog W = .ok (.int .i64 s3) W := fun _ => by kernel_rfl
          rcases coar_ways hs.out s3 with ⟨⟨k1, k2⟩, hiv, hG⟩ | hG
          · have hG := hide hG
            have hiv := hide hiv
            go_wp2_with fail
            refine Calls.mono hG.out ?_
            rintro e w2 ⟨d', p', F', rfl, q1, q2, q3, q4, hb2⟩
            have hq1 := hide q1
            have hq4 := hide q4
            have hs2 := hide (hs.out.same hb2)
            have hb2h := hide hb2
            clear q1 q4 hb2
            have bx3 := hs2.out.box
            have c0 := bx3.cell 0
            have c1 := bx3.cell 1
            have c2 := bx3.lt
            have c3 := bx3.free 0
            have c4 := bx3.free 1
            clear bx3
            have hIm := hide (BG.rimage_yes s3 L1 (.slice Av b.length cv) b w2 hs2.out.nds hs2.out.inv.ok hs2.out.inv.inb (by have := hs2.out.inv.blen; omega) ⟨hL3, hL4⟩ ⟨k1, k2⟩)
            go_wp2_with fail
            refine Calls.mono hIm.out ?_
            rintro e w4 ⟨u, rfl, hn4, hb4, hu4⟩
            have hs4 := hide (hs2.out.same hb4)
            have hb4h := hide (hb2h.out.trans (hb4.mono hb2h.out.size))
            have hq4' := hide (hq1.out.kept hb4)
            have hvo := hide (fun j (hj : u.ownBlock = some j) => (show j < w4.heap.size ∧ ¬ F' j ∧ j ≠ B from by have a1 := hu4 j hj; have a2 := hs2.out.box.lt; exact ⟨a1.1, fun k => (by have := hq1.out.lt.2.2 j k; omega), by omega⟩))
            have hn4h := hide hn4
            obtain ⟨Au, cu, rfl, -, -, -, -⟩ := hn4
            clear c0 c1 c2 c3 c4 hb4 hu4
            have bx4 := hs4.out.box
            have c0 := bx4.cell 0
            have c1 := bx4.cell 1
            have c2 := bx4.lt
            have c3 := bx4.free 0
            have c4 := bx4.free 1
            clear bx4
            go_wp2_with fail
            have bZ := Blk.made w4 35 #[.int .i64 (L1 - s3), (.slice Au (BagM.imageF s3 b).length cu)]
            have z0 := bZ.cell 0
            have z1 := bZ.cell 1
            have z2 := bZ.lt
            have hs5 := hide (hs4.out.same (balloc0 w4 (.cells #[.int .i64 (L1 - s3), (.slice Au (BagM.imageF s3 b).length cu)] 35)))
            have hb5h := hide (hb4h.out.trans ((balloc0 w4 (.cells #[.int .i64 (L1 - s3), (.slice Au (BagM.imageF s3 b).length cu)] 35)).mono hb4h.out.size))
            have hq5 := hide (hq4'.out.kept (balloc0 w4 (.cells #[.int .i64 (L1 - s3), (.slice Au (BagM.imageF s3 b).length cu)] 35)))
            have hn5 := hide (hn4h.out.kept (balloc0 w4 (.cells #[.int .i64 (L1 - s3), (.slice Au (BagM.imageF s3 b).length cu)] 35)))
            have hvo := hide (fun j hj => (show j < (w4.alloc (.cells #[.int .i64 (L1 - s3), (.slice Au (BagM.imageF s3 b).length cu)] 35)).heap.size ∧ ¬ F' j ∧ j ≠ B from by have a1 := hvo.out j hj; exact ⟨by simp; omega, a1.2⟩))
            clear c0 c1 c2 c3 c4 bZ
            have bx5 := hs5.out.box
            have c0 := bx5.cell 0
            have c1 := bx5.cell 1
            have c2 := bx5.lt
            have c3 := bx5.free 0
            have c4 := bx5.free 1
            clear bx5
            generalize (w4.alloc (.cells #[.int .i64 (L1 - s3), (.slice Au (BagM.imageF s3 b).length cu)] 35)) = w5 at *
            have hsN : Hid (ShAt w (((w5.setCell ⟨B, 0, none⟩ (.int .i64 (L1 - s3))).setCell ⟨B, 1, none⟩ (.slice Au (BagM.imageF s3 b).length cu)).drew) B d' p' K 1 (L1 - s3) (coarL (L1 - s3) l) (BagM.imageF s3 b) (.slice Au (BagM.imageF s3 b).length cu) F') := by
              refine hs.out.swap hb5h.out hq5.out ⟨q2, q3, hq4.out⟩ hn5.out (fun j hj => by have := hvo.out j hj; exact ⟨this.1, this.2.1, this.2.2⟩) hiv.out (w4 := ((w5.setCell ⟨B, 0, none⟩ (.int .i64 (L1 - s3))).setCell ⟨B, 1, none⟩ (.slice Au (BagM.imageF s3 b).length cu)).drew) ?_ ?_
              · exact ((Turn.setCell w5 (fun j => j = B) ⟨B, 0, none⟩ (.int .i64 (L1 - s3)) rfl).trans (Turn.setCell _ (fun j => j = B) ⟨B, 1, none⟩ (.slice Au (BagM.imageF s3 b).length cu) rfl) fun _ _ h => h).drewN 1
              · have := ((hs5.out.box.set 0 (.int .i64 (L1 - s3))).set 1 (.slice Au (BagM.imageF s3 b).length cu)).drew
                simpa using this
            go_region
            clear c0 c1 c2 c3 c4 z0 z1 z2
            generalize ((w5.setCell ⟨B, 0, none⟩ (.int .i64 (L1 - s3))).setCell ⟨B, 1, none⟩ (.slice Au (BagM.imageF s3 b).length cu)).drew = w6 at *
            have hSn := hide (stands_c d' p' K 1 (L1 - s3) y (coarL (L1 - s3) l) (BagM.imageF s3 b) (.slice Au (BagM.imageF s3 b).length cu) F' 80 _ hsN.out.dig hsN.out.nds hsN.out.inv (by omega))
            have bx8 := hsN.out.box
            have c0 := bx8.cell 0
            have c1 := bx8.cell 1
            have c2 := bx8.lt
            have c3 := bx8.free 0
            have c4 := bx8.free 1
            clear bx8
            go_wp2_with fail
            refine Calls.mono hSn.out ?_
            rintro e w9 ⟨rfl, hb9⟩
            have hs9 := hide (hsN.out.same hb9)
            clear c0 c1 c2 c3 c4 hb9
            go_wp2_with fail
            go_roundw
            case rel => exact ⟨4, d', p', (L1 - s3), (coarL (L1 - s3) l), (BagM.imageF s3 b), (.slice Au (BagM.imageF s3 b).length cu), F', rfl, by go_num, by omega, hs9⟩
            case measure => simp [intOf]
          · have hG := hide hG
            go_wp2_with fail
            refine Calls.mono hG.out ?_
            rintro e w2 ⟨rfl, hb2⟩
            have hs3 := hide (hs.out.same hb2)
            clear hb2
            have hSn := hide (stands_c d p K 1 L1 y l b (.slice Av b.length cv) F 80 _ hs3.out.dig hs3.out.nds hs3.out.inv (by omega))
            have bx8 := hs3.out.box
            have c0 := bx8.cell 0
            have c1 := bx8.cell 1
            have c2 := bx8.lt
            have c3 := bx8.free 0
            have c4 := bx8.free 1
            clear bx8
            go_wp2_with fail
            refine Calls.mono hSn.out ?_
            rintro e w9 ⟨rfl, hb9⟩
            have hs9 := hide (hs3.out.same hb9)
            clear c0 c1 c2 c3 c4 hb9
            go_wp2_with fail
            go_roundw
            case rel => exact ⟨4, d, p, L1, l, b, (.slice Av b.length cv), F, rfl, by go_num, by omega, hs9⟩
            case measure => simp [intOf]
      · obtain rfl : i = 4 := by omega
        have hS1 := hs.out.inv.acc hL3 hs.out.dig.k1 more (l, b) 80
        have hS1 : Inv K L1 (accF K L1 (l, b) more).1 (accF K L1 (l, b) more).2 160 := (Inv.acc hL3 hs.out.dig.k1 more (l, b) 80 hs.out.inv).more (by rw [hn2.out]; omega)
        have hAc2 := hide (accept_c d p K 1 L1 l b (.slice Av b.length cv) F 80 A2 c2 more wr hs.out.dig hs.out.nds hs.out.inv (by rw [hn2.out]; omega) (fun j hj => by have := hs.out.sep j hj; exact ⟨this.1, this.2.1⟩) (hr2.kept hs.out.bel) (fun h0 g off e k => by
          obtain ⟨g', off', e', hg, -⟩ := hr2 h0
          rw [e'] at e
          injection e with e
          injection e with e1 e2
          subst e1
          have := hs.out.low.2.2.2 _ k; omega) hwf2)
        rw [hn2.out] at hAc2
        generalize accF K L1 (l, b) more = S1 at *
        have hS1 := hide hS1
        have bx3 := hs.out.box
        have c0 := bx3.cell 0
        have c1 := bx3.cell 1
        have c2 := bx3.lt
        have c3 := bx3.free 0
        have c4 := bx3.free 1
        clear bx3
        go_wp2_with fail
        refine Calls.mono hAc2.out ?_
        rintro e w2 ⟨v2, F2, rfl, h1, h2, h3, h4, h5⟩
        have hB2 := hs.out.box.turned h3 hs.out.ndB.2.2
        have hlow := hs.out.low
        have hndB := hs.out.ndB
        have hBlt := hs.out.box.lt
        have hbw2 : Below w.heap.size w w2 := hs.out.bel.trans (h3.below _ hs.out.bel.size fun j hj k => by have := hlow.2.2.2 j k; omega)
        clear c0 c1 c2 c3 c4
        have c0 := hB2.cell 0
        have c1 := hB2.cell 1
        have c2 := hB2.lt
        have c3 := hB2.free 0
        have c4 := hB2.free 1
        obtain ⟨A3, c3', rfl, k3, k4, k5, k6⟩ := h2
        have h2 : Nds w2 (.slice A3 S1.2.length c3') S1.2 := ⟨A3, c3', rfl, k3, k4, k5, k6⟩
        have hSt := (Turn.setCell w2 (fun j => j = B) ⟨B, 0, none⟩ (.int .i64 L1) rfl).trans (Turn.setCell _ (fun j => j = B) ⟨B, 1, none⟩ (.slice A3 S1.2.length c3') rfl) fun _ _ h => h
        have hvB : ∀ j, (Value.slice A3 S1.2.length c3').ownBlock = some j → j ≠ B := fun j hj e => by
          have := h5 j hj
          rcases this.2.2 with q | q
          · exact (hs.out.sep j q).2.2 e
          · omega
        have hd3 := hide (h1.off hSt (by omega) (by omega) fun j hj e => by rcases h4 j hj with k | k; exact hndB.2.2 (e ▸ k); omega)
        have hn3 := hide (h2.turned hSt hvB)
        have hb3 := hide (((hbw2.setCell (show w.heap.size ≤ B by omega) (.int .i64 L1)).setCell (show w.heap.size ≤ B by omega) (.slice A3 S1.2.length c3')) : Below w.heap.size w ((w2.setCell ⟨B, 0, none⟩ (.int .i64 L1)).setCell ⟨B, 1, none⟩ (.slice A3 S1.2.length c3')))
        have hx3 := (hB2.set 0 (.int .i64 L1)).set 1 (.slice A3 S1.2.length c3')
        clear k3 k4 k5 k6 hSt hB2 h1 h2 h3 h4 h5 hbw2 hvB
        have hSn := hide (stands_c d p K 1 L1 y S1.1 S1.2 _ F2 160 _ hd3.out hn3.out hS1.out (by omega))
        go_wp2_with fail
        refine Calls.mono hSn.out ?_
        rintro e w4 ⟨rfl, hb4⟩
        have hb4 := hide (hb3.out.trans (hb4.mono hb3.out.size))
        go_wp2_with fail
        refine Calls.mono (hAl.out _) ?_
        rintro e w5 ⟨rfl, hb5⟩
        have hb5 := hide (hb4.out.trans (hb5.mono hb4.out.size))
        go_wp2_with fail
        go_ret
        exact ⟨rfl, hb5.out⟩
  · go_enter Tryz.func3, Tryz.ntmps3
    go_wp2_with fail
    refine Calls.mono (hNew.out _) ?_
    rintro e w1 ⟨d, p, F, rfl, q1, q2, q3, q4, hb1⟩
    have bS1 := bS.out.kept hb1
    have bT1 := bT.out.kept hb1
    have r0 := bS1.cell 0
    have r3 := bS1.cell 3
    have r4 := bS1.lt
    have t0 := bT1.cell 0
    have t1 := bT1.cell 1
    have t2 := bT1.cell 2
    have t3 := bT1.cell 3
    have t4 := bT1.lt
    have hbw1 := hide (bthen hb0.out hb1)
    have hz0 := hb0.out.size
    have q1 := hide q1
    have q4 := hide q4
    have bT1 := hide bT1
    clear bS1
    go_wp2_with fail
    refine Calls.mono (hAc.out d p F w1 q1.out (fun j hj => by have := q4.out j hj; omega) hbw1.out) ?_
    rintro e w2 ⟨v, F2, rfl, h1, h2, h3, h4, h5⟩
    have hbw2 : Below w.heap.size w w2 := hbw1.out.trans (h3.below _ hbw1.out.size fun j hj k => by have := q4.out j k; omega)
    have bT2 := bT1.out.turned h3 fun k => by have := q4.out _ k; have := bT.out.lt; omega
    clear t0 t1 t2 t3 t4 r0 r3 r4
    have t0 := bT2.cell 0
    have t1 := bT2.cell 1
    have t2 := bT2.cell 2
    have t3 := bT2.cell 3
    have t4 := bT2.lt
    have hst : Hid (ShAt w (w2.alloc (.cells #[.int .i64 L, v] 35)) w2.heap.size d p K 2 L S0.1 S0.2 v F2) := by
      have hz2 := hbw2.size
      have hlt := h1.lt
      refine ⟨h1.kept (balloc0 _ _), Blk.made _ _ _, h2.kept (balloc0 _ _), hiv0.out, hbw2.trans ((balloc0 w2 _).mono hz2), ⟨hz2, by omega, by omega, fun j hj => ?_⟩, fun j hj => ?_, by omega, by omega, fun k => by have := hlt.2.2 _ k; omega⟩
      · rcases h4 j hj with k | k
        · have := q4.out j k; omega
        · have := hbw1.out.size; omega
      · have := h5 j hj
        exact ⟨by simp; omega, this.2.1, by omega⟩
    obtain ⟨Av, cv, rfl, -, -, -, -⟩ := h2
    generalize S0.2.length = nb at *
    clear h1 h3 h4 h5 hbw2 bT2
    go_wp2_with fail
    have hBdef : ∃ B, w2.heap.size = B := ⟨_, rfl⟩
    obtain ⟨B, hB⟩ := hBdef
    rw [hB] at hst
    generalize (w2.alloc (.cells #[.int .i64 L, .slice Av nb cv] 35)) = wS at *
    rw [hB]
    clear hB
    go_loopw [9, 76] (fun dv kv wr => ∃ (i d p : Nat) (L1 : Int) (l b : List Nd) (v : Value) (F : Nat → Prop), dv = .pointer (some ⟨d, 0, none⟩) ∧ kv = .int .i64 i ∧ i ≤ 4 ∧ Hid (ShAt w wr B d p K 2 L1 l b v F)) (fun _ kv _ => 4 - (intOf kv).toNat)
    case atStart => exact ⟨0, d, p, L, S0.1, S0.2, _, F2, rfl, rfl, by omega, hst⟩
    case round =>
      clear hst hAc q1 q4 hNew hiv0 q2 q3 bT1 bT bS hb1 t0 t1 t2 t3 t4 hb0 hbw1
      obtain ⟨i, d, p, L1, l, b, v, F, rfl, rfl, hi4, hs⟩ := hrel
      obtain ⟨hL3, hL4⟩ := hs.out.dig.pool.uni
      have hnd := hs.out.nds
      obtain ⟨Av, cv, rfl, -, -, -, -⟩ := hnd
      by_cases hi : i < 4
      · have hi5 : i = 0 ∨ i = 1 ∨ i = 2 ∨ i = 3 := by omega
        rcases hi5 with rfl | rfl | rfl | rfl
        · have hix : ∀ W : World, (Instr.index 27 (.agg #[.int .i64 s0, .int .i64 s1, .int .i64 s2, .int .i64 s3]) (.int .i64 0)).run Tryz.prog W = .ok (.int .i64 s0) W := fun _ => by kernel_rfl
          rcases grow_ways hs.out s0 hs0 with ⟨⟨k1, k2⟩, hiv, hG⟩ | hG
          · have hG := hide hG
            have hiv := hide hiv
            go_wp2_with fail
            refine Calls.mono hG.out ?_
            rintro e w2 ⟨d', p', F', rfl, q1, q2, q3, q4, hb2⟩
            have hq1 := hide q1
            have hq4 := hide q4
            have hs2 := hide (hs.out.same hb2)
            have hb2h := hide hb2
            clear q1 q4 hb2
            have hCf := hide (digest_conf d p K 2 L1 l F w2 hs2.out.dig)
            unfold conf at hCf
            have hfld : ∀ W : World, (Instr.field 23 (.agg #[.int .i64 L1, .int .i64 K, .int .i64 2]) 2).run Tryz.prog W = .ok (.int .i64 2) W := fun _ => by kernel_rfl
            go_wp2_with fail
            refine Calls.mono hCf.out ?_
            rintro e w3 ⟨rfl, hb3⟩
            have hs3 := hide (hs2.out.same hb3)
            have hb3h := hide (hb2h.out.trans (hb3.mono hb2h.out.size))
            have hq3 := hide (hq1.out.kept hb3)
            clear hb3
            have bx3 := hs3.out.box
            have c0 := bx3.cell 0
            have c1 := bx3.cell 1
            have c2 := bx3.lt
            have c3 := bx3.free 0
            have c4 := bx3.free 1
            clear bx3
            have hWd := hide (BG.rwider_c s0 L1 b (.slice Av b.length cv) w3 hs3.out.nds fun j hj => (hs3.out.sep j hj).1)
            have hsl := hide hs3.out.sep
            go_wp2_with fail
            refine Calls.mono hWd.out ?_
            rintro e w4 ⟨hb4, hw⟩
            rcases hw with ⟨-, rfl, hn4⟩ | ⟨hbad, -⟩
            case inr => omega
            have hs4 := hide (hs3.out.same hb4)
            have hb4h := hide (hb3h.out.trans (hb4.mono hb3h.out.size))
            have hq4' := hide (hq3.out.kept hb4)
            have hn4 := hide hn4
            clear c0 c1 c2 c3 c4 hb4
            have bx4 := hs4.out.box
            have c0 := bx4.cell 0
            have c1 := bx4.cell 1
            have c2 := bx4.lt
            have c3 := bx4.free 0
            have c4 := bx4.free 1
            clear bx4
            go_wp2_with fail
            have bZ := Blk.made w4 35 #[.int .i64 s0, .slice Av b.length cv]
            have z0 := bZ.cell 0
            have z1 := bZ.cell 1
            have z2 := bZ.lt
            have hs5 := hide (hs4.out.same (balloc0 w4 (.cells #[.int .i64 s0, .slice Av b.length cv] 35)))
            have hb5h := hide (hb4h.out.trans ((balloc0 w4 (.cells #[.int .i64 s0, .slice Av b.length cv] 35)).mono hb4h.out.size))
            have hq5 := hide (hq4'.out.kept (balloc0 w4 (.cells #[.int .i64 s0, .slice Av b.length cv] 35)))
            have hn5 := hide (hn4.out.kept (balloc0 w4 (.cells #[.int .i64 s0, .slice Av b.length cv] 35)))
            clear c0 c1 c2 c3 c4 bZ
            have bx5 := hs5.out.box
            have c0 := bx5.cell 0
            have c1 := bx5.cell 1
            have c2 := bx5.lt
            have c3 := bx5.free 0
            have c4 := bx5.free 1
            clear bx5
            generalize (w4.alloc (.cells #[.int .i64 s0, .slice Av b.length cv] 35)) = w5 at *
            have hsN : Hid (ShAt w (((w5.setCell ⟨B, 0, none⟩ (.int .i64 (s0))).setCell ⟨B, 1, none⟩ (.slice Av b.length cv)).drew) B d' p' K 2 (s0) (growL (s0 - L1) l) b (.slice Av b.length cv) F') := by
              refine hs.out.swap hb5h.out hq5.out ⟨q2, q3, hq4.out⟩ hn5.out (fun j hj => by have a1 := hs.out.sep j hj; have a2 := hb5h.out.size; exact ⟨by omega, fun k => (by have := hq4.out j k; omega), a1.2.2⟩) hiv.out (w4 := ((w5.setCell ⟨B, 0, none⟩ (.int .i64 (s0))).setCell ⟨B, 1, none⟩ (.slice Av b.length cv)).drew) ?_ ?_
              · exact ((Turn.setCell w5 (fun j => j = B) ⟨B, 0, none⟩ (.int .i64 (s0)) rfl).trans (Turn.setCell _ (fun j => j = B) ⟨B, 1, none⟩ (.slice Av b.length cv) rfl) fun _ _ h => h).drewN 1
              · have := ((hs5.out.box.set 0 (.int .i64 (s0))).set 1 (.slice Av b.length cv)).drew
                simpa using this
            go_region
            clear c0 c1 c2 c3 c4 z0 z1 z2
            generalize ((w5.setCell ⟨B, 0, none⟩ (.int .i64 (s0))).setCell ⟨B, 1, none⟩ (.slice Av b.length cv)).drew = w6 at *
            have hSn := hide (stands_c d' p' K 2 (s0) y (growL (s0 - L1) l) b (.slice Av b.length cv) F' 80 _ hsN.out.dig hsN.out.nds hsN.out.inv (by omega))
            have bx8 := hsN.out.box
            have c0 := bx8.cell 0
            have c1 := bx8.cell 1
            have c2 := bx8.lt
            have c3 := bx8.free 0
            have c4 := bx8.free 1
            clear bx8
            go_wp2_with fail
            refine Calls.mono hSn.out ?_
            rintro e w9 ⟨rfl, hb9⟩
            have hs9 := hide (hsN.out.same hb9)
            clear c0 c1 c2 c3 c4 hb9
            go_wp2_with fail
            go_roundw
            case rel => exact ⟨1, d', p', (s0), (growL (s0 - L1) l), b, (.slice Av b.length cv), F', rfl, by go_num, by omega, hs9⟩
            case measure => simp [intOf]
          · have hG := hide hG
            go_wp2_with fail
            refine Calls.mono hG.out ?_
            rintro e w2 ⟨rfl, hb2⟩
            have hs3 := hide (hs.out.same hb2)
            clear hb2
            have hSn := hide (stands_c d p K 2 L1 y l b (.slice Av b.length cv) F 80 _ hs3.out.dig hs3.out.nds hs3.out.inv (by omega))
            have bx8 := hs3.out.box
            have c0 := bx8.cell 0
            have c1 := bx8.cell 1
            have c2 := bx8.lt
            have c3 := bx8.free 0
            have c4 := bx8.free 1
            clear bx8
            go_wp2_with fail
            refine Calls.mono hSn.out ?_
            rintro e w9 ⟨rfl, hb9⟩
            have hs9 := hide (hs3.out.same hb9)
            clear c0 c1 c2 c3 c4 hb9
            go_wp2_with fail
            go_roundw
            case rel => exact ⟨1, d, p, L1, l, b, (.slice Av b.length cv), F, rfl, by go_num, by omega, hs9⟩
            case measure => simp [intOf]
        · have hix : ∀ W : World, (Instr.index 27 (.agg #[.int .i64 s0, .int .i64 s1, .int .i64 s2, .int .i64 s3]) (.int .i64 1)).run Tryz.prog W = .ok (.int .i64 s1) W := fun _ => by kernel_rfl
          rcases coar_ways hs.out s1 with ⟨⟨k1, k2⟩, hiv, hG⟩ | hG
          · have hG := hide hG
            have hiv := hide hiv
            go_wp2_with fail
            refine Calls.mono hG.out ?_
            rintro e w2 ⟨d', p', F', rfl, q1, q2, q3, q4, hb2⟩
            have hq1 := hide q1
            have hq4 := hide q4
            have hs2 := hide (hs.out.same hb2)
            have hb2h := hide hb2
            clear q1 q4 hb2
            have bx3 := hs2.out.box
            have c0 := bx3.cell 0
            have c1 := bx3.cell 1
            have c2 := bx3.lt
            have c3 := bx3.free 0
            have c4 := bx3.free 1
            clear bx3
            have hIm := hide (BG.rimage_yes s1 L1 (.slice Av b.length cv) b w2 hs2.out.nds hs2.out.inv.ok hs2.out.inv.inb (by have := hs2.out.inv.blen; omega) ⟨hL3, hL4⟩ ⟨k1, k2⟩)
            go_wp2_with fail
            refine Calls.mono hIm.out ?_
            rintro e w4 ⟨u, rfl, hn4, hb4, hu4⟩
            have hs4 := hide (hs2.out.same hb4)
            have hb4h := hide (hb2h.out.trans (hb4.mono hb2h.out.size))
            have hq4' := hide (hq1.out.kept hb4)
            have hvo := hide (fun j (hj : u.ownBlock = some j) => (show j < w4.heap.size ∧ ¬ F' j ∧ j ≠ B from by have a1 := hu4 j hj; have a2 := hs2.out.box.lt; exact ⟨a1.1, fun k => (by have := hq1.out.lt.2.2 j k; omega), by omega⟩))
            have hn4h := hide hn4
            obtain ⟨Au, cu, rfl, -, -, -, -⟩ := hn4
            clear c0 c1 c2 c3 c4 hb4 hu4
            have bx4 := hs4.out.box
            have c0 := bx4.cell 0
            have c1 := bx4.cell 1
            have c2 := bx4.lt
            have c3 := bx4.free 0
            have c4 := bx4.free 1
            clear bx4
            go_wp2_with fail
            have bZ := Blk.made w4 35 #[.int .i64 (L1 - s1), (.slice Au (BagM.imageF s1 b).length cu)]
            have z0 := bZ.cell 0
            have z1 := bZ.cell 1
            have z2 := bZ.lt
            have hs5 := hide (hs4.out.same (balloc0 w4 (.cells #[.int .i64 (L1 - s1), (.slice Au (BagM.imageF s1 b).length cu)] 35)))
            have hb5h := hide (hb4h.out.trans ((balloc0 w4 (.cells #[.int .i64 (L1 - s1), (.slice Au (BagM.imageF s1 b).length cu)] 35)).mono hb4h.out.size))
            have hq5 := hide (hq4'.out.kept (balloc0 w4 (.cells #[.int .i64 (L1 - s1), (.slice Au (BagM.imageF s1 b).length cu)] 35)))
            have hn5 := hide (hn4h.out.kept (balloc0 w4 (.cells #[.int .i64 (L1 - s1), (.slice Au (BagM.imageF s1 b).length cu)] 35)))
            have hvo := hide (fun j hj => (show j < (w4.alloc (.cells #[.int .i64 (L1 - s1), (.slice Au (BagM.imageF s1 b).length cu)] 35)).heap.size ∧ ¬ F' j ∧ j ≠ B from by have a1 := hvo.out j hj; exact ⟨by simp; omega, a1.2⟩))
            clear c0 c1 c2 c3 c4 bZ
            have bx5 := hs5.out.box
            have c0 := bx5.cell 0
            have c1 := bx5.cell 1
            have c2 := bx5.lt
            have c3 := bx5.free 0
            have c4 := bx5.free 1
            clear bx5
            generalize (w4.alloc (.cells #[.int .i64 (L1 - s1), (.slice Au (BagM.imageF s1 b).length cu)] 35)) = w5 at *
            have hsN : Hid (ShAt w (((w5.setCell ⟨B, 0, none⟩ (.int .i64 (L1 - s1))).setCell ⟨B, 1, none⟩ (.slice Au (BagM.imageF s1 b).length cu)).drew) B d' p' K 2 (L1 - s1) (coarL (L1 - s1) l) (BagM.imageF s1 b) (.slice Au (BagM.imageF s1 b).length cu) F') := by
              refine hs.out.swap hb5h.out hq5.out ⟨q2, q3, hq4.out⟩ hn5.out (fun j hj => by have := hvo.out j hj; exact ⟨this.1, this.2.1, this.2.2⟩) hiv.out (w4 := ((w5.setCell ⟨B, 0, none⟩ (.int .i64 (L1 - s1))).setCell ⟨B, 1, none⟩ (.slice Au (BagM.imageF s1 b).length cu)).drew) ?_ ?_
              · exact ((Turn.setCell w5 (fun j => j = B) ⟨B, 0, none⟩ (.int .i64 (L1 - s1)) rfl).trans (Turn.setCell _ (fun j => j = B) ⟨B, 1, none⟩ (.slice Au (BagM.imageF s1 b).length cu) rfl) fun _ _ h => h).drewN 1
              · have := ((hs5.out.box.set 0 (.int .i64 (L1 - s1))).set 1 (.slice Au (BagM.imageF s1 b).length cu)).drew
                simpa using this
            go_region
            clear c0 c1 c2 c3 c4 z0 z1 z2
            generalize ((w5.setCell ⟨B, 0, none⟩ (.int .i64 (L1 - s1))).setCell ⟨B, 1, none⟩ (.slice Au (BagM.imageF s1 b).length cu)).drew = w6 at *
            have hSn := hide (stands_c d' p' K 2 (L1 - s1) y (coarL (L1 - s1) l) (BagM.imageF s1 b) (.slice Au (BagM.imageF s1 b).length cu) F' 80 _ hsN.out.dig hsN.out.nds hsN.out.inv (by omega))
            have bx8 := hsN.out.box
            have c0 := bx8.cell 0
            have c1 := bx8.cell 1
            have c2 := bx8.lt
            have c3 := bx8.free 0
            have c4 := bx8.free 1
            clear bx8
            go_wp2_with fail
            refine Calls.mono hSn.out ?_
            rintro e w9 ⟨rfl, hb9⟩
            have hs9 := hide (hsN.out.same hb9)
            clear c0 c1 c2 c3 c4 hb9
            go_wp2_with fail
            go_roundw
            case rel => exact ⟨2, d', p', (L1 - s1), (coarL (L1 - s1) l), (BagM.imageF s1 b), (.slice Au (BagM.imageF s1 b).length cu), F', rfl, by go_num, by omega, hs9⟩
            case measure => simp [intOf]
          · have hG := hide hG
            go_wp2_with fail
            refine Calls.mono hG.out ?_
            rintro e w2 ⟨rfl, hb2⟩
            have hs3 := hide (hs.out.same hb2)
            clear hb2
            have hSn := hide (stands_c d p K 2 L1 y l b (.slice Av b.length cv) F 80 _ hs3.out.dig hs3.out.nds hs3.out.inv (by omega))
            have bx8 := hs3.out.box
            have c0 := bx8.cell 0
            have c1 := bx8.cell 1
            have c2 := bx8.lt
            have c3 := bx8.free 0
            have c4 := bx8.free 1
            clear bx8
            go_wp2_with fail
            refine Calls.mono hSn.out ?_
            rintro e w9 ⟨rfl, hb9⟩
            have hs9 := hide (hs3.out.same hb9)
            clear c0 c1 c2 c3 c4 hb9
            go_wp2_with fail
            go_roundw
            case rel => exact ⟨2, d, p, L1, l, b, (.slice Av b.length cv), F, rfl, by go_num, by omega, hs9⟩
            case measure => simp [intOf]
        · have hix : ∀ W : World, (Instr.index 27 (.agg #[.int .i64 s0, .int .i64 s1, .int .i64 s2, .int .i64 s3]) (.int .i64 2)).run Tryz.prog W = .ok (.int .i64 s2) W := fun _ => by kernel_rfl
          rcases grow_ways hs.out s2 hs2 with ⟨⟨k1, k2⟩, hiv, hG⟩ | hG
          · have hG := hide hG
            have hiv := hide hiv
            go_wp2_with fail
            refine Calls.mono hG.out ?_
            rintro e w2 ⟨d', p', F', rfl, q1, q2, q3, q4, hb2⟩
            have hq1 := hide q1
            have hq4 := hide q4
            have hs2 := hide (hs.out.same hb2)
            have hb2h := hide hb2
            clear q1 q4 hb2
            have hCf := hide (digest_conf d p K 2 L1 l F w2 hs2.out.dig)
            unfold conf at hCf
            have hfld : ∀ W : World, (Instr.field 23 (.agg #[.int .i64 L1, .int .i64 K, .int .i64 2]) 2).run Tryz.prog W = .ok (.int .i64 2) W := fun _ => by kernel_rfl
            go_wp2_with fail
            refine Calls.mono hCf.out ?_
            rintro e w3 ⟨rfl, hb3⟩
            have hs3 := hide (hs2.out.same hb3)
            have hb3h := hide (hb2h.out.trans (hb3.mono hb2h.out.size))
            have hq3 := hide (hq1.out.kept hb3)
            clear hb3
            have bx3 := hs3.out.box
            have c0 := bx3.cell 0
            have c1 := bx3.cell 1
            have c2 := bx3.lt
            have c3 := bx3.free 0
            have c4 := bx3.free 1
            clear bx3
            have hWd := hide (BG.rwider_c s2 L1 b (.slice Av b.length cv) w3 hs3.out.nds fun j hj => (hs3.out.sep j hj).1)
            have hsl := hide hs3.out.sep
            go_wp2_with fail
            refine Calls.mono hWd.out ?_
            rintro e w4 ⟨hb4, hw⟩
            rcases hw with ⟨-, rfl, hn4⟩ | ⟨hbad, -⟩
            case inr => omega
            have hs4 := hide (hs3.out.same hb4)
            have hb4h := hide (hb3h.out.trans (hb4.mono hb3h.out.size))
            have hq4' := hide (hq3.out.kept hb4)
            have hn4 := hide hn4
            clear c0 c1 c2 c3 c4 hb4
            have bx4 := hs4.out.box
            have c0 := bx4.cell 0
            have c1 := bx4.cell 1
            have c2 := bx4.lt
            have c3 := bx4.free 0
            have c4 := bx4.free 1
            clear bx4
            go_wp2_with fail
            have bZ := Blk.made w4 35 #[.int .i64 s2, .slice Av b.length cv]
            have z0 := bZ.cell 0
            have z1 := bZ.cell 1
            have z2 := bZ.lt
            have hs5 := hide (hs4.out.same (balloc0 w4 (.cells #[.int .i64 s2, .slice Av b.length cv] 35)))
            have hb5h := hide (hb4h.out.trans ((balloc0 w4 (.cells #[.int .i64 s2, .slice Av b.length cv] 35)).mono hb4h.out.size))
            have hq5 := hide (hq4'.out.kept (balloc0 w4 (.cells #[.int .i64 s2, .slice Av b.length cv] 35)))
            have hn5 := hide (hn4.out.kept (balloc0 w4 (.cells #[.int .i64 s2, .slice Av b.length cv] 35)))
            clear c0 c1 c2 c3 c4 bZ
            have bx5 := hs5.out.box
            have c0 := bx5.cell 0
            have c1 := bx5.cell 1
            have c2 := bx5.lt
            have c3 := bx5.free 0
            have c4 := bx5.free 1
            clear bx5
            generalize (w4.alloc (.cells #[.int .i64 s2, .slice Av b.length cv] 35)) = w5 at *
            have hsN : Hid (ShAt w (((w5.setCell ⟨B, 0, none⟩ (.int .i64 (s2))).setCell ⟨B, 1, none⟩ (.slice Av b.length cv)).drew) B d' p' K 2 (s2) (growL (s2 - L1) l) b (.slice Av b.length cv) F') := by
              refine hs.out.swap hb5h.out hq5.out ⟨q2, q3, hq4.out⟩ hn5.out (fun j hj => by have a1 := hs.out.sep j hj; have a2 := hb5h.out.size; exact ⟨by omega, fun k => (by have := hq4.out j k; omega), a1.2.2⟩) hiv.out (w4 := ((w5.setCell ⟨B, 0, none⟩ (.int .i64 (s2))).setCell ⟨B, 1, none⟩ (.slice Av b.length cv)).drew) ?_ ?_
              · exact ((Turn.setCell w5 (fun j => j = B) ⟨B, 0, none⟩ (.int .i64 (s2)) rfl).trans (Turn.setCell _ (fun j => j = B) ⟨B, 1, none⟩ (.slice Av b.length cv) rfl) fun _ _ h => h).drewN 1
              · have := ((hs5.out.box.set 0 (.int .i64 (s2))).set 1 (.slice Av b.length cv)).drew
                simpa using this
            go_region
            clear c0 c1 c2 c3 c4 z0 z1 z2
            generalize ((w5.setCell ⟨B, 0, none⟩ (.int .i64 (s2))).setCell ⟨B, 1, none⟩ (.slice Av b.length cv)).drew = w6 at *
            have hSn := hide (stands_c d' p' K 2 (s2) y (growL (s2 - L1) l) b (.slice Av b.length cv) F' 80 _ hsN.out.dig hsN.out.nds hsN.out.inv (by omega))
            have bx8 := hsN.out.box
            have c0 := bx8.cell 0
            have c1 := bx8.cell 1
            have c2 := bx8.lt
            have c3 := bx8.free 0
            have c4 := bx8.free 1
            clear bx8
            go_wp2_with fail
            refine Calls.mono hSn.out ?_
            rintro e w9 ⟨rfl, hb9⟩
            have hs9 := hide (hsN.out.same hb9)
            clear c0 c1 c2 c3 c4 hb9
            go_wp2_with fail
            go_roundw
            case rel => exact ⟨3, d', p', (s2), (growL (s2 - L1) l), b, (.slice Av b.length cv), F', rfl, by go_num, by omega, hs9⟩
            case measure => simp [intOf]
          · have hG := hide hG
            go_wp2_with fail
            refine Calls.mono hG.out ?_
            rintro e w2 ⟨rfl, hb2⟩
            have hs3 := hide (hs.out.same hb2)
            clear hb2
            have hSn := hide (stands_c d p K 2 L1 y l b (.slice Av b.length cv) F 80 _ hs3.out.dig hs3.out.nds hs3.out.inv (by omega))
            have bx8 := hs3.out.box
            have c0 := bx8.cell 0
            have c1 := bx8.cell 1
            have c2 := bx8.lt
            have c3 := bx8.free 0
            have c4 := bx8.free 1
            clear bx8
            go_wp2_with fail
            refine Calls.mono hSn.out ?_
            rintro e w9 ⟨rfl, hb9⟩
            have hs9 := hide (hs3.out.same hb9)
            clear c0 c1 c2 c3 c4 hb9
            go_wp2_with fail
            go_roundw
            case rel => exact ⟨3, d, p, L1, l, b, (.slice Av b.length cv), F, rfl, by go_num, by omega, hs9⟩
            case measure => simp [intOf]
        · have hix : ∀ W : World, (Instr.index 27 (.agg #[.int .i64 s0, .int .i64 s1, .int .i64 s2, .int .i64 s3]) (.int .i64 3)).run Tryz.prog W = .ok (.int .i64 s3) W := fun _ => by kernel_rfl
          rcases coar_ways hs.out s3 with ⟨⟨k1, k2⟩, hiv, hG⟩ | hG
          · have hG := hide hG
            have hiv := hide hiv
            go_wp2_with fail
            refine Calls.mono hG.out ?_
            rintro e w2 ⟨d', p', F', rfl, q1, q2, q3, q4, hb2⟩
            have hq1 := hide q1
            have hq4 := hide q4
            have hs2 := hide (hs.out.same hb2)
            have hb2h := hide hb2
            clear q1 q4 hb2
            have bx3 := hs2.out.box
            have c0 := bx3.cell 0
            have c1 := bx3.cell 1
            have c2 := bx3.lt
            have c3 := bx3.free 0
            have c4 := bx3.free 1
            clear bx3
            have hIm := hide (BG.rimage_yes s3 L1 (.slice Av b.length cv) b w2 hs2.out.nds hs2.out.inv.ok hs2.out.inv.inb (by have := hs2.out.inv.blen; omega) ⟨hL3, hL4⟩ ⟨k1, k2⟩)
            go_wp2_with fail
            refine Calls.mono hIm.out ?_
            rintro e w4 ⟨u, rfl, hn4, hb4, hu4⟩
            have hs4 := hide (hs2.out.same hb4)
            have hb4h := hide (hb2h.out.trans (hb4.mono hb2h.out.size))
            have hq4' := hide (hq1.out.kept hb4)
            have hvo := hide (fun j (hj : u.ownBlock = some j) => (show j < w4.heap.size ∧ ¬ F' j ∧ j ≠ B from by have a1 := hu4 j hj; have a2 := hs2.out.box.lt; exact ⟨a1.1, fun k => (by have := hq1.out.lt.2.2 j k; omega), by omega⟩))
            have hn4h := hide hn4
            obtain ⟨Au, cu, rfl, -, -, -, -⟩ := hn4
            clear c0 c1 c2 c3 c4 hb4 hu4
            have bx4 := hs4.out.box
            have c0 := bx4.cell 0
            have c1 := bx4.cell 1
            have c2 := bx4.lt
            have c3 := bx4.free 0
            have c4 := bx4.free 1
            clear bx4
            go_wp2_with fail
            have bZ := Blk.made w4 35 #[.int .i64 (L1 - s3), (.slice Au (BagM.imageF s3 b).length cu)]
            have z0 := bZ.cell 0
            have z1 := bZ.cell 1
            have z2 := bZ.lt
            have hs5 := hide (hs4.out.same (balloc0 w4 (.cells #[.int .i64 (L1 - s3), (.slice Au (BagM.imageF s3 b).length cu)] 35)))
            have hb5h := hide (hb4h.out.trans ((balloc0 w4 (.cells #[.int .i64 (L1 - s3), (.slice Au (BagM.imageF s3 b).length cu)] 35)).mono hb4h.out.size))
            have hq5 := hide (hq4'.out.kept (balloc0 w4 (.cells #[.int .i64 (L1 - s3), (.slice Au (BagM.imageF s3 b).length cu)] 35)))
            have hn5 := hide (hn4h.out.kept (balloc0 w4 (.cells #[.int .i64 (L1 - s3), (.slice Au (BagM.imageF s3 b).length cu)] 35)))
            have hvo := hide (fun j hj => (show j < (w4.alloc (.cells #[.int .i64 (L1 - s3), (.slice Au (BagM.imageF s3 b).length cu)] 35)).heap.size ∧ ¬ F' j ∧ j ≠ B from by have a1 := hvo.out j hj; exact ⟨by simp; omega, a1.2⟩))
            clear c0 c1 c2 c3 c4 bZ
            have bx5 := hs5.out.box
            have c0 := bx5.cell 0
            have c1 := bx5.cell 1
            have c2 := bx5.lt
            have c3 := bx5.free 0
            have c4 := bx5.free 1
            clear bx5
            generalize (w4.alloc (.cells #[.int .i64 (L1 - s3), (.slice Au (BagM.imageF s3 b).length cu)] 35)) = w5 at *
            have hsN : Hid (ShAt w (((w5.setCell ⟨B, 0, none⟩ (.int .i64 (L1 - s3))).setCell ⟨B, 1, none⟩ (.slice Au (BagM.imageF s3 b).length cu)).drew) B d' p' K 2 (L1 - s3) (coarL (L1 - s3) l) (BagM.imageF s3 b) (.slice Au (BagM.imageF s3 b).length cu) F') := by
              refine hs.out.swap hb5h.out hq5.out ⟨q2, q3, hq4.out⟩ hn5.out (fun j hj => by have := hvo.out j hj; exact ⟨this.1, this.2.1, this.2.2⟩) hiv.out (w4 := ((w5.setCell ⟨B, 0, none⟩ (.int .i64 (L1 - s3))).setCell ⟨B, 1, none⟩ (.slice Au (BagM.imageF s3 b).length cu)).drew) ?_ ?_
              · exact ((Turn.setCell w5 (fun j => j = B) ⟨B, 0, none⟩ (.int .i64 (L1 - s3)) rfl).trans (Turn.setCell _ (fun j => j = B) ⟨B, 1, none⟩ (.slice Au (BagM.imageF s3 b).length cu) rfl) fun _ _ h => h).drewN 1
              · have := ((hs5.out.box.set 0 (.int .i64 (L1 - s3))).set 1 (.slice Au (BagM.imageF s3 b).length cu)).drew
                simpa using this
            go_region
            clear c0 c1 c2 c3 c4 z0 z1 z2
            generalize ((w5.setCell ⟨B, 0, none⟩ (.int .i64 (L1 - s3))).setCell ⟨B, 1, none⟩ (.slice Au (BagM.imageF s3 b).length cu)).drew = w6 at *
            have hSn := hide (stands_c d' p' K 2 (L1 - s3) y (coarL (L1 - s3) l) (BagM.imageF s3 b) (.slice Au (BagM.imageF s3 b).length cu) F' 80 _ hsN.out.dig hsN.out.nds hsN.out.inv (by omega))
            have bx8 := hsN.out.box
            have c0 := bx8.cell 0
            have c1 := bx8.cell 1
            have c2 := bx8.lt
            have c3 := bx8.free 0
            have c4 := bx8.free 1
            clear bx8
            go_wp2_with fail
            refine Calls.mono hSn.out ?_
            rintro e w9 ⟨rfl, hb9⟩
            have hs9 := hide (hsN.out.same hb9)
            clear c0 c1 c2 c3 c4 hb9
            go_wp2_with fail
            go_roundw
            case rel => exact ⟨4, d', p', (L1 - s3), (coarL (L1 - s3) l), (BagM.imageF s3 b), (.slice Au (BagM.imageF s3 b).length cu), F', rfl, by go_num, by omega, hs9⟩
            case measure => simp [intOf]
          · have hG := hide hG
            go_wp2_with fail
            refine Calls.mono hG.out ?_
            rintro e w2 ⟨rfl, hb2⟩
            have hs3 := hide (hs.out.same hb2)
            clear hb2
            have hSn := hide (stands_c d p K 2 L1 y l b (.slice Av b.length cv) F 80 _ hs3.out.dig hs3.out.nds hs3.out.inv (by omega))
            have bx8 := hs3.out.box
            have c0 := bx8.cell 0
            have c1 := bx8.cell 1
            have c2 := bx8.lt
            have c3 := bx8.free 0
            have c4 := bx8.free 1
            clear bx8
            go_wp2_with fail
            refine Calls.mono hSn.out ?_
            rintro e w9 ⟨rfl, hb9⟩
            have hs9 := hide (hs3.out.same hb9)
            clear c0 c1 c2 c3 c4 hb9
            go_wp2_with fail
            go_roundw
            case rel => exact ⟨4, d, p, L1, l, b, (.slice Av b.length cv), F, rfl, by go_num, by omega, hs9⟩
            case measure => simp [intOf]
      · obtain rfl : i = 4 := by omega
        have hS1 := hs.out.inv.acc hL3 hs.out.dig.k1 more (l, b) 80
        have hS1 : Inv K L1 (accF K L1 (l, b) more).1 (accF K L1 (l, b) more).2 160 := (Inv.acc hL3 hs.out.dig.k1 more (l, b) 80 hs.out.inv).more (by rw [hn2.out]; omega)
        have hAc2 := hide (accept_c d p K 2 L1 l b (.slice Av b.length cv) F 80 A2 c2 more wr hs.out.dig hs.out.nds hs.out.inv (by rw [hn2.out]; omega) (fun j hj => by have := hs.out.sep j hj; exact ⟨this.1, this.2.1⟩) (hr2.kept hs.out.bel) (fun h0 g off e k => by
          obtain ⟨g', off', e', hg, -⟩ := hr2 h0
          rw [e'] at e
          injection e with e
          injection e with e1 e2
          subst e1
          have := hs.out.low.2.2.2 _ k; omega) hwf2)
        rw [hn2.out] at hAc2
        generalize accF K L1 (l, b) more = S1 at *
        have hS1 := hide hS1
        have bx3 := hs.out.box
        have c0 := bx3.cell 0
        have c1 := bx3.cell 1
        have c2 := bx3.lt
        have c3 := bx3.free 0
        have c4 := bx3.free 1
        clear bx3
        go_wp2_with fail
        refine Calls.mono hAc2.out ?_
        rintro e w2 ⟨v2, F2, rfl, h1, h2, h3, h4, h5⟩
        have hB2 := hs.out.box.turned h3 hs.out.ndB.2.2
        have hlow := hs.out.low
        have hndB := hs.out.ndB
        have hBlt := hs.out.box.lt
        have hbw2 : Below w.heap.size w w2 := hs.out.bel.trans (h3.below _ hs.out.bel.size fun j hj k => by have := hlow.2.2.2 j k; omega)
        clear c0 c1 c2 c3 c4
        have c0 := hB2.cell 0
        have c1 := hB2.cell 1
        have c2 := hB2.lt
        have c3 := hB2.free 0
        have c4 := hB2.free 1
        obtain ⟨A3, c3', rfl, k3, k4, k5, k6⟩ := h2
        have h2 : Nds w2 (.slice A3 S1.2.length c3') S1.2 := ⟨A3, c3', rfl, k3, k4, k5, k6⟩
        have hSt := (Turn.setCell w2 (fun j => j = B) ⟨B, 0, none⟩ (.int .i64 L1) rfl).trans (Turn.setCell _ (fun j => j = B) ⟨B, 1, none⟩ (.slice A3 S1.2.length c3') rfl) fun _ _ h => h
        have hvB : ∀ j, (Value.slice A3 S1.2.length c3').ownBlock = some j → j ≠ B := fun j hj e => by
          have := h5 j hj
          rcases this.2.2 with q | q
          · exact (hs.out.sep j q).2.2 e
          · omega
        have hd3 := hide (h1.off hSt (by omega) (by omega) fun j hj e => by rcases h4 j hj with k | k; exact hndB.2.2 (e ▸ k); omega)
        have hn3 := hide (h2.turned hSt hvB)
        have hb3 := hide (((hbw2.setCell (show w.heap.size ≤ B by omega) (.int .i64 L1)).setCell (show w.heap.size ≤ B by omega) (.slice A3 S1.2.length c3')) : Below w.heap.size w ((w2.setCell ⟨B, 0, none⟩ (.int .i64 L1)).setCell ⟨B, 1, none⟩ (.slice A3 S1.2.length c3')))
        have hx3 := (hB2.set 0 (.int .i64 L1)).set 1 (.slice A3 S1.2.length c3')
        clear k3 k4 k5 k6 hSt hB2 h1 h2 h3 h4 h5 hbw2 hvB
        have hSn := hide (stands_c d p K 2 L1 y S1.1 S1.2 _ F2 160 _ hd3.out hn3.out hS1.out (by omega))
        go_wp2_with fail
        refine Calls.mono hSn.out ?_
        rintro e w4 ⟨rfl, hb4⟩
        have hb4 := hide (hb3.out.trans (hb4.mono hb3.out.size))
        go_wp2_with fail
        refine Calls.mono (hAl.out _) ?_
        rintro e w5 ⟨rfl, hb5⟩
        have hb5 := hide (hb4.out.trans (hb5.mono hb4.out.size))
        go_wp2_with fail
        go_ret
        exact ⟨rfl, hb5.out⟩
end Go.Proofs.YtfjgpjgphdiliaaGreat

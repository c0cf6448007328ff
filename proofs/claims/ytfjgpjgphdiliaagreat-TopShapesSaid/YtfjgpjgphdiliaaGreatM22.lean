/- Part 22 of the proof: texts joined by this repo's tools/merge.py (TopB OpArg). By the prover of this repo. -/
import Derived.Test.YtfjgpjgphdiliaaGreatM21
import Derived.Test.YtfjgpjgphdiliaaGreatM1
import Derived.Deep.SlicePairs
import Derived.Deep.Strs
set_option linter.unusedVariables false
set_option linter.unusedSimpArgs false
/- The law's own words, on: calls of a digest, and the bag of all that it stands for then. By the prover of this repo. -/
namespace Go.Proofs.YtfjgpjgphdiliaaGreat
open Go.RowKit
open TwigM RollM StoM TopM

/-- The cells of a list of calls. -/
def opc (l : List TopM.Op) (j : Nat) : Value := .int .i64 (if j % 3 = 0 then (l.getD (j / 3) (0, 0, 0)).1 else if j % 3 = 1 then (l.getD (j / 3) (0, 0, 0)).2.1 else (l.getD (j / 3) (0, 0, 0)).2.2)
def OpWf (l : List TopM.Op) : Prop := ∀ o ∈ l, (-9223372036854775808 ≤ o.1 ∧ o.1 ≤ 9223372036854775807) ∧ (-9223372036854775808 ≤ o.2.1 ∧ o.2.1 ≤ 9223372036854775807) ∧ -9223372036854775808 ≤ o.2.2 ∧ o.2.2 ≤ 9223372036854775807
theorem op_at {w : World} {A : Option Addr} {l : List TopM.Op} (h : Rd w A l.length 3 (opc l)) {k : Nat} (hk : k < l.length) :
    ∃ b off, A = some ⟨b, off, none⟩ ∧ b < w.heap.size ∧ w.cell? ⟨b, off + k * 3, none⟩ = some (.int .i64 l[k].1) ∧ w.cell? ⟨b, off + k * 3 + 1, none⟩ = some (.int .i64 l[k].2.1) ∧ w.cell? ⟨b, off + k * 3 + 2, none⟩ = some (.int .i64 l[k].2.2) := by
  obtain ⟨b, off, e, hb, hc⟩ := h (by omega)
  refine ⟨b, off, e, hb, ?_, ?_, ?_⟩
  · rw [hc (k * 3) (by omega)]
    unfold opc
    rw [if_pos (by omega), show k * 3 / 3 = k by omega]
    simp [hk]
  · have := hc (k * 3 + 1) (by omega)
    rw [Nat.add_assoc, this]
    unfold opc
    rw [if_neg (by omega), if_pos (by omega), show (k * 3 + 1) / 3 = k by omega]
    simp [hk]
  · have := hc (k * 3 + 2) (by omega)
    rw [Nat.add_assoc, this]
    unfold opc
    rw [if_neg (by omega), if_neg (by omega), show (k * 3 + 2) / 3 = k by omega]
    simp [hk]
theorem Rd.turned {w w' : World} {A : Option Addr} {n size : Nat} {f : Nat → Value} {S : Nat → Prop} (h : Rd w A n size f) (t : Turn S w w') (hn : 0 < n → ∀ b off, A = some ⟨b, off, none⟩ → ¬ S b) : Rd w' A n size f := fun h0 => by
  obtain ⟨b, off, e, hb, hc⟩ := h h0
  have hs := t.size
  exact ⟨b, off, e, by omega, fun i hi => (World.cell?_of_block (a := ⟨b, off + i, none⟩) (t.block b hb (hn h0 b off e))).trans (hc i hi)⟩
theorem DigAt.off {w w' : World} {d p : Nat} {K kd L : Int} {l : List Nd} {F S : Nat → Prop} (h : DigAt w d p K kd L l F) (t : Turn S w w') (h1 : ¬ S d) (h2 : ¬ S p) (h3 : ∀ j, F j → ¬ S j) : DigAt w' d p K kd L l F :=
  ⟨h.blk.turned t h1, h.pool.turned t h2 h3, h.ndp, h.ndF, h.k1, h.k2⟩

/-- A digest, and beside it a bag in a block of the call's own. -/
structure AccAt (W wr : World) (d p : Nat) (K kd L : Int) (l b : List Nd) (v0 v : Value) (F0 F : Nat → Prop) : Prop where
  dig : DigAt wr d p K kd L l F
  box : Blk wr W.heap.size 35 #[.int .i64 L, v]
  res : Blk wr (W.heap.size + 1) 35 #[.int .i64 0, .slice none 0 0]
  nds : Nds wr v b
  turn : Turn F0 W wr
  sub : ∀ j, F j → F0 j ∨ W.heap.size + 2 ≤ j
  sep : ∀ j, v.ownBlock = some j → j < wr.heap.size ∧ ¬ F j ∧ j ≠ W.heap.size ∧ j ≠ W.heap.size + 1
  src : ∀ j, v.ownBlock = some j → v0.ownBlock = some j ∨ W.heap.size ≤ j
  old : ∀ j, F0 j → j < W.heap.size
  dlt : d < W.heap.size ∧ p < W.heap.size
section
variable {W wr w3 : World} {d p : Nat} {K kd L : Int} {l l' b b' : List Nd} {v0 v v' : Value} {F0 F F' : Nat → Prop}
theorem AccAt.size (s : AccAt W wr d p K kd L l b v0 v F0 F) : W.heap.size + 2 ≤ wr.heap.size := by have := s.res.lt; omega
theorem AccAt.call (s : AccAt W wr d p K kd L l b v0 v F0 F) (h1 : DigAt w3 d p K kd L l' F') (t : Turn F wr w3) (hf : ∀ j, F' j → F j ∨ wr.heap.size ≤ j) : AccAt W w3 d p K kd L l' b v0 v F0 F' := by
  have hs := s.size
  have ht := t.size
  have hnF : ∀ j, F j → j ≠ W.heap.size ∧ j ≠ W.heap.size + 1 := fun j hj => by
    rcases s.sub j hj with k | k
    · have := s.old j k; omega
    · omega
  refine ⟨h1, s.box.turned t fun k => (hnF _ k).1 rfl, s.res.turned t fun k => (hnF _ k).2 rfl, s.nds.turned t fun j hj => (s.sep j hj).2.1, s.turn.trans t fun j hj k => ?_, fun j hj => ?_, fun j hj => ?_, s.src, s.old, s.dlt⟩
  · rcases s.sub j k with q | q
    · exact q
    · omega
  · rcases hf j hj with k | k
    · exact s.sub j k
    · right; omega
  · obtain ⟨e1, e2, e3, e4⟩ := s.sep j hj
    refine ⟨by omega, fun k => ?_, e3, e4⟩
    rcases hf j k with q | q
    · exact e2 q
    · omega
theorem AccAt.same (s : AccAt W wr d p K kd L l b v0 v F0 F) (hb : Below wr.heap.size wr w3) : AccAt W w3 d p K kd L l b v0 v F0 F :=
  s.call (s.dig.kept hb) (Below.turn hb F) fun _ h => .inl h
theorem AccAt.bag (s : AccAt W wr d p K kd L l b v0 v F0 F) (hb : Below wr.heap.size wr w3) (hn : Nds w3 v' b') (hv : ∀ j, v'.ownBlock = some j → j < w3.heap.size ∧ (v.ownBlock = some j ∨ wr.heap.size ≤ j)) :
    AccAt W ((w3.setCell ⟨W.heap.size, 0, none⟩ (.int .i64 L)).setCell ⟨W.heap.size, 1, none⟩ v') d p K kd L l b' v0 v' F0 F := by
  have hs := s.size
  have hz := hb.size
  have k := s.same hb
  have hnF : ∀ j, F j → j ≠ W.heap.size := fun j hj => by
    rcases s.sub j hj with k | k
    · have := s.old j k; omega
    · omega
  have hFl := s.dig.lt.2.2
  have t : Turn (fun j => j = W.heap.size) w3 ((w3.setCell ⟨W.heap.size, 0, none⟩ (.int .i64 L)).setCell ⟨W.heap.size, 1, none⟩ v') :=
    (Turn.setCell w3 (fun j => j = W.heap.size) ⟨W.heap.size, 0, none⟩ (.int .i64 L) rfl).trans (Turn.setCell _ (fun j => j = W.heap.size) ⟨W.heap.size, 1, none⟩ v' rfl) fun _ _ h => h
  have hd := s.dlt
  have hv2 : ∀ j, v'.ownBlock = some j → j < w3.heap.size ∧ ¬ F j ∧ j ≠ W.heap.size ∧ j ≠ W.heap.size + 1 := fun j hj => by
    obtain ⟨e1, e2⟩ := hv j hj
    rcases e2 with q | q
    · obtain ⟨_, h2, h3, h4⟩ := s.sep j q
      exact ⟨e1, h2, h3, h4⟩
    · refine ⟨e1, fun hF => ?_, by omega, by omega⟩
      have := hFl j hF; omega
  refine ⟨k.dig.off t (by omega) (by omega) fun j hj => hnF j hj, ?_, k.res.turned t (by omega), hn.turned t fun j hj => (hv2 j hj).2.2.1, k.turn.trans t fun j hj e => by omega, k.sub, fun j hj => ?_, fun j hj => (by have := (hv j hj).2; rcases this with q | q; exact s.src j q; right; omega), s.old, s.dlt⟩
  · have := (k.box.set 0 (.int .i64 L)).set 1 v'
    simpa using this
  · have := hv2 j hj
    simpa using this
theorem AccAt.empty (s : AccAt W wr d p K kd L l b v0 v F0 F) : AccAt W (wr.setCell ⟨W.heap.size, 1, none⟩ (.slice none 0 0)) d p K kd L l [] v0 (.slice none 0 0) F0 F := by
  have hs := s.size
  have hnF : ∀ j, F j → j ≠ W.heap.size := fun j hj => by
    rcases s.sub j hj with k | k
    · have := s.old j k; omega
    · omega
  have t : Turn (fun j => j = W.heap.size) wr (wr.setCell ⟨W.heap.size, 1, none⟩ (.slice none 0 0)) := Turn.setCell wr (fun j => j = W.heap.size) ⟨W.heap.size, 1, none⟩ _ rfl
  have hd := s.dlt
  refine ⟨s.dig.off t (by omega) (by omega) fun j hj => hnF j hj, ?_, s.res.turned t (by omega), Nds.nil _, s.turn.trans t fun j hj e => by omega, s.sub, (fun j hj => by cases hj), (fun j hj => by cases hj), s.old, s.dlt⟩
  have := s.box.set 1 (.slice none 0 0)
  simpa using this
end
/-- What a call of accept leaves. -/
def AccPost (w : World) (d p : Nat) (K kd L : Int) (s : List Nd × List Nd) (v : Value) (F : Nat → Prop) (e : Ending) (w' : World) : Prop :=
  ∃ v' F', e = .returned (BG.rb L v') ∧ DigAt w' d p K kd L s.1 F' ∧ Nds w' v' s.2 ∧ Turn F w w' ∧ (∀ j, F' j → F j ∨ w.heap.size ≤ j) ∧ ∀ j, v'.ownBlock = some j → j < w'.heap.size ∧ ¬ F' j ∧ (v.ownBlock = some j ∨ w.heap.size ≤ j)
set_option maxRecDepth 100000 in
set_option maxHeartbeats 4000000 in
theorem accept_c (d p : Nat) (K kd L : Int) (l b : List Nd) (v : Value) (F : Nat → Prop) (N : Nat) (A : Option Addr) (c : Nat) (ops : List TopM.Op) (w : World) (h : DigAt w d p K kd L l F) (hv : Nds w v b) (hi : Inv K L l b N) (hN : N + ops.length ≤ 1000)
    (hsep : ∀ j, v.ownBlock = some j → j < w.heap.size ∧ ¬ F j) (hops : Rd w A ops.length 3 (opc ops)) (hoF : 0 < ops.length → ∀ g off, A = some ⟨g, off, none⟩ → ¬ F g) (hwf : OpWf ops) :
    Calls Tryz.prog 6 #[.pointer (some ⟨d, 0, none⟩), BG.rb L v, .slice A ops.length c] w (AccPost w d p K kd L (accF K L (l, b) ops) v F) := by
  obtain ⟨hL1, hL2⟩ := h.pool.uni
  have hK1 := h.k1
  have hlt := h.lt
  have hb0 := balloc (balloc0 w (.cells #[.int .i64 L, v] 35)) (.cells #[.int .i64 0, .slice none 0 0] 35)
  have hst : AccAt w ((w.alloc (.cells #[.int .i64 L, v] 35)).alloc (.cells #[.int .i64 0, .slice none 0 0] 35)) d p K kd L l b v v F F :=
    ⟨h.kept hb0, (Blk.made w _ _).alloc _, Blk.made_at _ _ _ (by simp), hv.kept hb0, Below.turn hb0 F, fun j hj => .inl hj, fun j hj => by have := hsep j hj; exact ⟨by simp; omega, this.2, by omega, by omega⟩, fun j hj => .inl hj, hlt.2.2, ⟨hlt.1, hlt.2.1⟩⟩
  have hord := hide (fun (W : World) (t : Turn F w W) => hops.turned t hoF)
  have hwfh := hide hwf
  obtain ⟨n, hn⟩ : ∃ n, Hid (ops.length = n) := ⟨_, rfl⟩
  rw [hn.out] at hN ⊢
  obtain ⟨G, hG⟩ : ∃ G, Hid (accF K L (l, b) ops = G) := ⟨_, rfl⟩
  rw [hG.out]
  have hsth := hide hst
  have hih := hide hi
  have hvf := hv
  obtain ⟨Av, cv, rfl, -, -, -, -⟩ := hvf
  clear hops hwf hb0 h hv hi hsep hst hoF
  generalize b.length = nb at *
  go_enter Tryz.func6, Tryz.ntmps6
  go_wp2_with fail
  generalize ((w.alloc (.cells #[.int .i64 L, .slice Av nb cv] 35)).alloc (.cells #[.int .i64 0, .slice none 0 0] 35)) = w1 at *
  go_loopw [11] (fun kv wr => ∃ (i : Nat) (s : List Nd × List Nd) (u : Value) (F1 : Nat → Prop), kv = .int .i64 i ∧ i ≤ n ∧ Hid (AccAt w wr d p K kd L s.1 s.2 (.slice Av nb cv) u F F1) ∧ Hid (Inv K L s.1 s.2 (N + i)) ∧ Hid (accF K L s (ops.drop i) = G)) (fun kv _ => n - (intOf kv).toNat)
  case atStart => exact ⟨0, (l, b), _, F, rfl, by omega, hsth, by rw [Nat.add_zero]; exact hih, by show _ = _; rw [List.drop_zero]; exact hG.out⟩
  case round =>
    obtain ⟨i, s, u, F1, rfl, hil0, ha, hinv, hgo⟩ := hrel
    clear hsth
    have hms : meas s.1 (startF s.1) ≤ 10000000 := by
      have h1 := meas_le (show 0 ≤ L by omega) hL2 hinv.out.inU
      have h2 := hinv.out.len
      omega
    have hbl : s.2.length ≤ 1000 := by have := hinv.out.blen; omega
    have hll : s.1.length ≤ 1000 := by have := hinv.out.len; omega
    by_cases hlt : i < n
    · have hil : i < ops.length := by rw [hn.out]; exact hlt
      obtain ⟨g, off, rfl, hg, c0, c1, c2⟩ := op_at (hord.out wr ha.out.turn) hil
      have how := hwfh.out ops[i] (List.getElem_mem hil)
      have hgo2 : accF K L (opF K L s ops[i]) (ops.drop (i + 1)) = G := by rw [← hgo.out, List.drop_eq_getElem_cons hil]; rfl
      have hinv2 := hinv.out.op hL1 hK1 ops[i]
      generalize ops[i] = o at *
      obtain ⟨k, x, m⟩ := o
      simp only at c0 c1 c2 how
      obtain ⟨-, ⟨-, hx2⟩, -, hm2⟩ := how
      have hndu := ha.out.nds
      have hua := ha
      have ha2 := hide (ha.out.same (balloc0 wr (.cells #[.int .i64 k, .int .i64 x, .int .i64 m] 58)))
      have hz := ha.out.size
      have bo := Blk.made wr 58 #[.int .i64 k, .int .i64 x, .int .i64 m]
      have boh := hide bo
      by_cases hk1 : k = 1
      · subst hk1
        rw [opF_one (o := (1, x, m)) rfl] at hgo2 hinv2
        have hC := hide (digest_compress d p K kd L s.1 F1 _ ha2.out.dig hms)
        have hgo3 := hide hgo2
        have hinv3 := hide hinv2
        clear hgo hgo2 hinv hinv2 bo hndu
        go_wp2_with (go_at_call 18; refine hC.out.mono ?_; rintro e w2 ⟨rfl, F2, h1, h2, h3⟩; have hs2 := hide (ha2.out.call h1 h2 h3); clear h1 h2 h3)
        go_roundw
        case rel => exact ⟨i + 1, ((pressF L K s.1).1, s.2), u, F2, by go_num, by omega, hs2, hinv3.out, hgo3⟩
        case measure => simp [intOf]; omega
      · by_cases hk2 : k = 2
        · subst hk2
          rw [opF_two (o := (2, x, m)) rfl] at hgo2 hinv2
          have hR := hide (digest_reset d p K kd L s.1 F1 _ ha2.out.dig)
          have hgo3 := hide hgo2
          have hinv3 := hide hinv2
          clear hgo hgo2 hinv hinv2 bo hndu hk1
          go_wp2_with (go_at_call 19; refine hR.out.mono ?_; rintro e w2 ⟨⟨vr, rfl⟩, h1, h2⟩; have hs2 := hide (ha2.out.call h1 h2 fun _ hj => .inl hj); clear h1 h2; have bx := hs2.out.box; have q1 := bx.cell 1; have q2 := bx.lt; have q3 := bx.free 1; clear bx)
          have hs3 := hide hs2.out.empty
          go_roundw
          case rel => exact ⟨i + 1, ([], []), .slice none 0 0, F1, by go_num, by omega, hs3, hinv3.out, hgo3⟩
          case measure => simp [intOf]; omega
        · by_cases hin : insE L x m (sumL s.1) = 0
          · rw [opF_ins (o := (k, x, m)) hk1 hk2 hin] at hgo2 hinv2
            obtain ⟨hadd, i1, i2, i3, i4⟩ := add_of hinv.out hin
            have hI := hide (digest_insert d p K kd L x m s.1 F1 _ ha2.out.dig i1 i2 i3 i4 hms (by omega))
            have hA := hide (fun (W : World) (q : Nds W u s.2) (q2 : ∀ j, u.ownBlock = some j → j < W.heap.size) => BG.radd_c x m L s.2 u W q hinv.out.ok (by omega) ⟨hL1, hL2⟩ q2)
            rw [hadd] at hA
            have hgo3 := hide hgo2
            have hinv3 := hide hinv2
            have hFl := hide ha.out.dig.lt.2.2
            obtain ⟨Au, cu, rfl, -, -, -, -⟩ := hndu
            have k1f : (k == 1) = false := by simpa using hk1
            have k2f : (k == 2) = false := by simpa using hk2
            clear hgo hgo2 hinv hinv2 bo hin hadd i1 i2 i3 i4
            go_wp2_with (go_at_call 13; refine hI.out.mono ?_; rintro e w2 ⟨rfl, F2, h1, h2, h3⟩; have hs2 := hide (ha2.out.call h1 h2 h3); have bo2 := boh.out.turned h2 (fun hj => by have := hFl.out _ hj; omega); clear h1 h2 h3; have bx := hs2.out.box; have q0 := bx.cell 0; have q1 := bx.cell 1; have q2 := bx.lt; have o1 := bo2.cell 1; have o2 := bo2.cell 2; have o3 := bo2.lt; clear bx bo2)
            refine Calls.mono (hA.out w2 hs2.out.nds fun j hj => (hs2.out.sep j hj).1) ?_
            rintro e w3 ⟨v3, rfl, hn3, hb3, hv3⟩
            have hs3 := hide (hs2.out.bag hb3 hn3 hv3)
            have bx := (hs2.out.same hb3).box
            obtain ⟨A3, c3, rfl, -, -, -, -⟩ := hn3
            clear q0 q1 q2 o1 o2 o3
            have q0 := bx.cell 0
            have q1 := bx.cell 1
            have q2 := bx.lt
            have q3 := bx.free 0
            have q4 := bx.free 1
            clear bx hb3 hv3
            go_wp2_with fail
            go_roundw
            case rel => exact ⟨i + 1, (insF L K x m s.1, BagM.put x m s.2), _, F2, by go_num, by omega, hs3, hinv3.out, hgo3⟩
            case measure => simp [intOf]; omega
          · rw [opF_no (o := (k, x, m)) hk1 hk2 hin] at hgo2 hinv2
            have hI := hide (digest_insert_no d p K kd L x m s.1 F1 _ ha2.out.dig hx2 hm2 hin)
            have hgo3 := hide hgo2
            have hinv3 := hide hinv2
            have hin0 : (insE L x m (sumL s.1) == 0) = false := by simpa using hin
            generalize insE L x m (sumL s.1) = z at *
            have k1f : (k == 1) = false := by simpa using hk1
            have k2f : (k == 2) = false := by simpa using hk2
            clear hgo hgo2 hinv hinv2 bo hndu
            go_wp2_with (go_at_call 13; refine hI.out.mono ?_; rintro e w2 ⟨rfl, hb2⟩; have hs2 := hide (ha2.out.same hb2); clear hb2)
            go_roundw
            case rel => exact ⟨i + 1, s, u, F1, by go_num, by omega, hs2, hinv3.out, hgo3⟩
            case measure => simp [intOf]; omega
    · have hres : Hid (s = G) := by show _ = _; rw [← hgo.out, List.drop_of_length_le (by rw [hn.out]; omega)]; rfl
      have bx := ha.out.box
      have br := ha.out.res
      have b0 := bx.cell 0
      have b1 := bx.cell 1
      have b2 := bx.lt
      have r0 := br.cell 0
      have r1 := br.cell 1
      have r2 := br.lt
      have r3 := br.free 0
      have r4 := br.free 1
      have hndu := ha.out.nds
      obtain ⟨Au, cu, rfl, -, -, -, -⟩ := hndu
      clear bx br hgo hinv hms
      go_wp2_with fail
      refine bodyPost_ret (v := BG.rb L (.slice Au s.2.length cu)) (by simp [results, Tryz.results6, go_sem, r0, r1]) rfl ?_
      have hz := ha.out.size
      have hSt := (Turn.setCell wr (fun j => j = w.heap.size + 1) ⟨w.heap.size + 1, 0, none⟩ (.int .i64 L) rfl).trans (Turn.setCell _ (fun j => j = w.heap.size + 1) ⟨w.heap.size + 1, 1, none⟩ (.slice Au s.2.length cu) rfl) fun _ _ h => h
      have hd := ha.out.dlt
      have hnF : ∀ j, F1 j → j ≠ w.heap.size + 1 := fun j hj => by
        rcases ha.out.sub j hj with k | k
        · have := ha.out.old j k; omega
        · omega
      rw [← hres.out]
      refine ⟨_, F1, rfl, ha.out.dig.off hSt (by omega) (by omega) fun j hj => hnF j hj, ha.out.nds.turned hSt fun j hj => (ha.out.sep j hj).2.2.2, ha.out.turn.trans hSt fun j hj e => by omega, fun j hj => ?_, fun j hj => ?_⟩
      · rcases ha.out.sub j hj with k | k
        · exact .inl k
        · right; omega
      · have := ha.out.sep j hj
        exact ⟨by simpa using this.1, this.2.1, ha.out.src j hj⟩
end Go.Proofs.YtfjgpjgphdiliaaGreat
/- Arguments that hold calls of a digest, opened. By the prover of this repo. -/
namespace Go.Proofs.YtfjgpjgphdiliaaGreat
open Go.ChangeShapes Go.WideShapes Go.ChangeAt Go.RowKit Go.Joins Go.Deep
open TopM

section
variable {H : Type} {enc : TypeId × Value → H} {P : Program} {w : World} {held : Bool} {r : Reach} {b0 : Nat}
theorem cell_ops {t e : TypeId} {f0 f1 f2 : Field} {v : Value} {fuel : Nat} {x0 : DataW H × List MemPlace} (ht : P.underlying t = some (.slice e)) (he : P.underlying e = some (.struct #[f0, f1, f2]))
    (ce : P.cellsOf e = 3) (o0 : f0.offset = 0) (o1 : f1.offset = 1) (o2 : f2.offset = 2) (c0 : P.cellsOf f0.type = 1) (c1 : P.cellsOf f1.type = 1) (c2 : P.cellsOf f2.type = 1)
    (h0 : P.underlying f0.type = some (.int .i64)) (h1 : P.underlying f1.type = some (.int .i64)) (h2 : P.underlying f2.type = some (.int .i64))
    (hf : DataW.trod enc P w 0 (fun _ => true) held fuel t [v] = some x0) :
    ∃ (a : Option Addr) (c : Nat) (l : List TopM.Op), v = .slice a l.length c ∧ Rd w a l.length 3 (opc l) ∧ l.length ≤ c ∧ c ≤ maxLen ∧ OpWf l := by
  rcases open_slice ht hf with ⟨hcs, _⟩ | ⟨a, len, cap, m, n, D, Pl, hcs, _, hl, hm, hmm, _, hx⟩
  · simp only [List.cons.injEq, and_true] at hcs
    subst hcs
    exact ⟨none, 0, [], rfl, Rd.zero _ _ _ _, Nat.le_refl _, by unfold maxLen; omega, by intro p hp; cases hp⟩
  · simp only [List.cons.injEq, and_true] at hcs
    subst hcs
    simp at hmm
    have hV : ∀ i, i < len → ∃ q : TopM.Op, w.cell? (a.add (i * 3)) = some (.int .i64 q.1) ∧ w.cell? (a.add (i * 3 + 1)) = some (.int .i64 q.2.1) ∧ w.cell? (a.add (i * 3 + 2)) = some (.int .i64 q.2.2) ∧ (Lit.int .i64 q.1).wf = true ∧ (Lit.int .i64 q.2.1).wf = true ∧ (Lit.int .i64 q.2.2).wf = true := by
      intro i hi
      obtain ⟨cs', g1, g2⟩ := hx i (by omega)
      rw [ce] at g1
      obtain ⟨_, hlen, hcell⟩ := World.cells?_some g1
      obtain ⟨y0, y1, y2, k, _, _, k0, k1, k2⟩ := trod_struct3 he g2
      match cs', hlen with
      | [v0, v1, v2], _ =>
        simp [o0, c0] at k0
        simp [o1, c1] at k1
        simp [o2, c2] at k2
        have e0 := hcell 0 (by omega)
        have e1 := hcell 1 (by omega)
        have e2 := hcell 2 (by omega)
        rw [add_add] at e0 e1 e2
        obtain ⟨a0, q0, _, w0⟩ := DataW.trod_int h0 k0
        obtain ⟨a1, q1, _, w1⟩ := DataW.trod_int h1 k1
        obtain ⟨a2, q2, _, w2⟩ := DataW.trod_int h2 k2
        simp only [List.cons.injEq, and_true] at q0 q1 q2
        subst q0 q1 q2
        exact ⟨(a0, a1, a2), by simpa using e0, by simpa using e1, by simpa using e2, w0, w1, w2⟩
    obtain ⟨q, hq⟩ := choose_lt hV
    have hlen : ((List.range len).map q).length = len := by simp
    refine ⟨some a, cap, (List.range len).map q, by rw [hlen], ?_, by rw [hlen]; exact hl, hm, ?_⟩
    · rw [hlen]
      refine rd_cells (by omega) fun i hi => ?_
      obtain ⟨j, hj⟩ : ∃ j, i = j * 3 ∨ i = j * 3 + 1 ∨ i = j * 3 + 2 := ⟨i / 3, by omega⟩
      unfold opc
      rcases hj with rfl | rfl | rfl
      · rw [(hq j (by omega)).1, if_pos (by omega), show j * 3 / 3 = j by omega]
        simp [show j < len by omega]
      · rw [(hq j (by omega)).2.1, if_neg (by omega), if_pos (by omega), show (j * 3 + 1) / 3 = j by omega]
        simp [show j < len by omega]
      · rw [(hq j (by omega)).2.2.1, if_neg (by omega), if_neg (by omega), show (j * 3 + 2) / 3 = j by omega]
        simp [show j < len by omega]
    · intro p hp
      obtain ⟨j, hj, rfl⟩ := List.mem_map.1 hp
      have hj2 := hq j (by simpa using hj)
      exact ⟨i64_bounds hj2.2.2.2.1, i64_bounds hj2.2.2.2.2.1, i64_bounds hj2.2.2.2.2.2⟩
theorem arg_ops {t e : TypeId} {f0 f1 f2 : Field} {v : Value} {d : DataW H} {p : List MemPlace} (ht : P.underlying t = some (.slice e)) (he : P.underlying e = some (.struct #[f0, f1, f2]))
    (ce : P.cellsOf e = 3) (o0 : f0.offset = 0) (o1 : f1.offset = 1) (o2 : f2.offset = 2) (c0 : P.cellsOf f0.type = 1) (c1 : P.cellsOf f1.type = 1) (c2 : P.cellsOf f2.type = 1)
    (h0 : P.underlying f0.type = some (.int .i64)) (h1 : P.underlying f1.type = some (.int .i64)) (h2 : P.underlying f2.type = some (.int .i64))
    (hv : Value.okWide P w r b0 t v) (h : DataW.Trod enc P w 0 (fun _ => true) held t v d p) :
    ∃ (a : Option Addr) (c : Nat) (l : List TopM.Op), v = .slice a l.length c ∧ Rd w a l.length 3 (opc l) ∧ l.length ≤ c ∧ c ≤ maxLen ∧ OpWf l := by
  obtain ⟨a, n, c, rfl⟩ := okWide_slice ht hv
  obtain ⟨fuel, hf⟩ := h
  exact cell_ops ht he ce o0 o1 o2 c0 c1 c2 h0 h1 h2 (by simpa [Value.cells] using hf)
theorem arg_arr4 {t e : TypeId} {k : IntKind} (ht : P.underlying t = some (.array 4 e)) (he : P.underlying e = some (.int k)) (hc : P.cellsOf e = 1) (hC : P.cellsOf t = 4) {v : Value} {d : DataW H} {p : List MemPlace}
    (hv : Value.okWide P w r b0 t v) (h : DataW.Trod enc P w 0 (fun _ => true) held t v d p) :
    ∃ a b c e : Int, v = .agg #[.int k a, .int k b, .int k c, .int k e] ∧ (Lit.int k a).wf = true ∧ (Lit.int k b).wf = true ∧ (Lit.int k c).wf = true ∧ (Lit.int k e).wf = true := by
  obtain ⟨cs, rfl, hsz⟩ := array_cells ht hv
  obtain ⟨c0, c1, c2, c3, rfl⟩ := array4 (hsz.trans hC)
  obtain ⟨fuel, hf⟩ := h
  obtain ⟨y0, y1, y2, y3, m, _, h0, h1, h2, h3⟩ := trod_array4 ht hc hf
  obtain ⟨a, e0, _, wa⟩ := DataW.trod_int he h0
  obtain ⟨b, e1, _, wb⟩ := DataW.trod_int he h1
  obtain ⟨c, e2, _, wc⟩ := DataW.trod_int he h2
  obtain ⟨d', e3, _, wd⟩ := DataW.trod_int he h3
  simp only [List.cons.injEq, and_true] at e0 e1 e2 e3
  subst e0 e1 e2 e3
  exact ⟨a, b, c, d', rfl, wa, wb, wc, wd⟩
/-- A side: of what a digest is made, and its calls. -/
theorem arg_side {ts t e : TypeId} {s0 s1 g0 g1 g2 f0 f1 f2 : Field} {v : Value} {d : DataW H} {p : List MemPlace} (hs : P.underlying ts = some (.struct #[s0, s1])) (hcs : P.cellsOf ts = 4)
    (hg : P.underlying s0.type = some (.struct #[g0, g1, g2])) (so0 : s0.offset = 0) (so1 : s1.offset = 3) (sc0 : P.cellsOf s0.type = 3) (sc1 : P.cellsOf s1.type = 1) (go0 : g0.offset = 0) (go1 : g1.offset = 1) (go2 : g2.offset = 2)
    (gc0 : P.cellsOf g0.type = 1) (gc1 : P.cellsOf g1.type = 1) (gc2 : P.cellsOf g2.type = 1) (gi0 : P.underlying g0.type = some (.int .i64)) (gi1 : P.underlying g1.type = some (.int .i64)) (gi2 : P.underlying g2.type = some (.int .i64))
    (ht1 : s1.type = t) (ht : P.underlying t = some (.slice e)) (he : P.underlying e = some (.struct #[f0, f1, f2]))
    (ce : P.cellsOf e = 3) (o0 : f0.offset = 0) (o1 : f1.offset = 1) (o2 : f2.offset = 2) (c0 : P.cellsOf f0.type = 1) (c1 : P.cellsOf f1.type = 1) (c2 : P.cellsOf f2.type = 1)
    (h0 : P.underlying f0.type = some (.int .i64)) (h1 : P.underlying f1.type = some (.int .i64)) (h2 : P.underlying f2.type = some (.int .i64))
    (hv : Value.okWide P w r b0 ts v) (h : DataW.Trod enc P w 0 (fun _ => true) held ts v d p) :
    ∃ (L K kd : Int) (a : Option Addr) (c : Nat) (l : List TopM.Op), v = .agg #[.int .i64 L, .int .i64 K, .int .i64 kd, .slice a l.length c] ∧ Rd w a l.length 3 (opc l) ∧ l.length ≤ c ∧ c ≤ maxLen ∧ OpWf l := by
  obtain ⟨cs, rfl, hsz⟩ := okWide_struct hs hv
  obtain ⟨v0, v1, v2, v3, rfl⟩ := array4 (hsz.trans hcs)
  obtain ⟨fuel, hf⟩ := h
  obtain ⟨y0, y1, n, _, _, k0, k1⟩ := trod_struct2 hs hf
  simp [Value.cells, so0, sc0] at k0
  simp [Value.cells, so1, sc1] at k1
  obtain ⟨z0, z1, z2, m, _, _, j0, j1, j2⟩ := trod_struct3 hg k0
  simp [go0, gc0] at j0
  simp [go1, gc1] at j1
  simp [go2, gc2] at j2
  obtain ⟨a0, q0, _, _⟩ := DataW.trod_int gi0 j0
  obtain ⟨a1, q1, _, _⟩ := DataW.trod_int gi1 j1
  obtain ⟨a2, q2, _, _⟩ := DataW.trod_int gi2 j2
  simp only [List.cons.injEq, and_true] at q0 q1 q2
  subst q0 q1 q2
  rw [ht1] at k1
  obtain ⟨a, c, l, rfl, q⟩ := cell_ops ht he ce o0 o1 o2 c0 c1 c2 h0 h1 h2 k1
  exact ⟨a0, a1, a2, a, c, l, rfl, q⟩
end
end Go.Proofs.YtfjgpjgphdiliaaGreat

/- Part 24 of the proof: texts joined by this repo's tools/merge.py (TopD Bld QTail Dig). By the prover of this repo. -/
import Derived.Test.YtfjgpjgphdiliaaGreatM23
import Derived.Test.YtfjgpjgphdiliaaGreatM6
import Derived.Lib.Builder
import Derived.Lib.AppendStr
import Derived.Lib.UnsafeStr
import Derived.Laws.Externs
import Derived.Test.YtfjgpjgphdiliaaGreatM1
import Derived.StillTail
set_option linter.unusedVariables false
set_option linter.unusedSimpArgs false
/- The law TopShapes: its walk, but for what is alive; ways that end early. By the prover of this repo. -/
namespace Go.Proofs.YtfjgpjgphdiliaaGreat
open Go.RowKit
open TwigM RollM StoM TopM

set_option maxRecDepth 100000 in
set_option maxHeartbeats 4000000 in
theorem shapes_c (hAl : ∀ W, Calls Tryz.prog 4 #[] W fun e w' => e = .returned (.bool true) ∧ Below W.heap.size W w')
    (L K kd : Int) (A A2 : Option Addr) (c c2 : Nat) (ops more : List TopM.Op) (s0 s1 s2 s3 y : Int) (w : World)
    (hr : Rd w A ops.length 3 (opc ops)) (hr2 : Rd w A2 more.length 3 (opc more)) (hwf : OpWf ops) (hwf2 : OpWf more)
    (hs0 : -9223372036854775808 ≤ s0 ∧ s0 ≤ 9223372036854775807) (hs1 : -9223372036854775808 ≤ s1 ∧ s1 ≤ 9223372036854775807) (hs2 : -9223372036854775808 ≤ s2 ∧ s2 ≤ 9223372036854775807) (hs3 : -9223372036854775808 ≤ s3 ∧ s3 ≤ 9223372036854775807) :
    Calls Tryz.prog 3 #[side L K kd A ops.length c, four s0 s1 s2 s3, .slice A2 more.length c2, .int .i64 y] w fun e w' => e = .returned (.bool true) ∧ Below w.heap.size w w' := by
  replace hAl := hide hAl
  have hb0 := hide (balloc (balloc0 w (.cells #[.int .i64 L, .int .i64 K, .int .i64 kd, .slice A ops.length c] 26)) (.cells #[.int .i64 s0, .int .i64 s1, .int .i64 s2, .int .i64 s3] 27))
  obtain ⟨n, hn⟩ : ∃ n, Hid (ops.length = n) := ⟨_, rfl⟩
  obtain ⟨n2, hn2⟩ : ∃ n2, Hid (more.length = n2) := ⟨_, rfl⟩
  unfold side
  rw [hn.out, hn2.out]
  rw [hn.out] at hb0
  by_cases g1 : 80 < n
  · clear hr hr2 hwf hwf2
    go_enter Tryz.func3, Tryz.ntmps3
    go_wp2_with (go_at_call 4; refine (hAl.out _).mono ?_; rintro e w1 ⟨rfl, hb⟩)
    go_ret
    exact ⟨rfl, bthen hb0.out hb⟩
  by_cases g2 : 80 < n2
  · clear hr hr2 hwf hwf2
    go_enter Tryz.func3, Tryz.ntmps3
    go_wp2_with (go_at_call 4; refine (hAl.out _).mono ?_; rintro e w1 ⟨rfl, hb⟩)
    go_ret
    exact ⟨rfl, bthen hb0.out hb⟩
  by_cases g3 : kd = 1 ∧ 10 < L
  · obtain ⟨rfl, g3⟩ := g3
    clear hr hr2 hwf hwf2
    go_enter Tryz.func3, Tryz.ntmps3
    go_wp2_with (go_at_call 4; refine (hAl.out _).mono ?_; rintro e w1 ⟨rfl, hb⟩)
    go_ret
    exact ⟨rfl, bthen hb0.out hb⟩
  have g3' : (kd = 1 ∧ L ≤ 10) ∨ (kd == 1) = false := by
    by_cases k : kd = 1
    · left; omega
    · right; simpa using k
  clear g3
  by_cases g4 : 48 < s0
  · clear hr hr2 hwf hwf2
    rcases g3' with ⟨rfl, g3⟩ | g3
    all_goals
      go_enter Tryz.func3, Tryz.ntmps3
      go_wp2_with (go_at_call 4; refine (hAl.out _).mono ?_; rintro e w1 ⟨rfl, hb⟩)
      go_ret
      exact ⟨rfl, bthen hb0.out hb⟩
  by_cases g5 : 48 < s2
  · clear hr hr2 hwf hwf2
    rcases g3' with ⟨rfl, g3⟩ | g3
    all_goals
      go_enter Tryz.func3, Tryz.ntmps3
      go_wp2_with (go_at_call 4; refine (hAl.out _).mono ?_; rintro e w1 ⟨rfl, hb⟩)
      go_ret
      exact ⟨rfl, bthen hb0.out hb⟩
  by_cases hcf : confB L K kd = true
  case neg =>
    have hNo := hide (fun W => digest_new_no L K kd W (by simpa using hcf))
    unfold conf at hNo
    clear hr hr2 hwf hwf2 hcf
    rcases g3' with ⟨rfl, g3⟩ | g3
    all_goals
      go_enter Tryz.func3, Tryz.ntmps3
      go_wp2_with (first
        | (go_at_call 5; refine (hNo.out _).mono ?_; rintro e w1 ⟨rfl, hb1⟩)
        | (go_at_call 4; refine (hAl.out _).mono ?_; rintro e w2 ⟨rfl, hb⟩))
      go_ret
      exact ⟨rfl, bthen (bthen hb0.out hb1) hb⟩
  exact shapes_main hAl.out L K kd A A2 c c2 ops more s0 s1 s2 s3 y w hr hr2 hwf hwf2 hs0 hs1 hs2 hs3 n n2 hn.out hn2.out g1 g2 g4 g5 g3' hcf
end Go.Proofs.YtfjgpjgphdiliaaGreat
/- The walks of strings.Builder's writing methods at this program. By the prover of this repo. -/
namespace Go.Proofs.YtfjgpjgphdiliaaGreat
open Go.RowKit

abbrev IsBld (B b : Nat) (bs : List Value) (w : World) : Prop := Lib.IsBuilder 83 5 B b bs w
abbrev BldAt (B b : Nat) (bs : List Value) (w : World) : Prop := Lib.BuilderAt 83 5 B b (.pointer (some ⟨b, 0, none⟩)) bs w
/-- All blocks but builders and bytes are as they were. -/
structure KeepB (w w' : World) : Prop where
  size : w.heap.size ≤ w'.heap.size
  block : ∀ (k : Nat) (cs : Array Value) (t : TypeId), w.heap[k]? = some (.cells cs t (0, 0)) → t ≠ 83 → t ≠ 5 → w'.heap[k]? = w.heap[k]?
theorem KeepB.refl (w : World) : KeepB w w := ⟨Nat.le_refl _, fun _ _ _ _ _ _ => rfl⟩
theorem KeepB.trans {w w1 w2 : World} (h : KeepB w w1) (k : KeepB w1 w2) : KeepB w w2 :=
  ⟨Nat.le_trans h.size k.size, fun j cs t hj h1 h2 => (k.block j cs t ((h.block j cs t hj h1 h2).trans hj) h1 h2).trans (h.block j cs t hj h1 h2)⟩
theorem KeepB.below {w w1 : World} (h : Below w.heap.size w w1) : KeepB w w1 := ⟨h.size, fun k _ _ hk _ _ => h.block k (Array.getElem?_eq_some_iff.1 hk).1⟩
theorem KeepB.blk {w w1 : World} (h : KeepB w w1) {g : Nat} {t : TypeId} {cs : Array Value} (hb : Blk w g t cs) (h1 : t ≠ 83) (h2 : t ≠ 5) : Blk w1 g t cs := (h.block g cs t hb h1 h2).trans hb
theorem KeepB.row {w w1 : World} (h : KeepB w w1) {base : Nat} {e : TypeId} {size : Nat} {v : Value} {n : Nat} {xs : List Value} (ho : w.ownsRow base e size v n xs) (h1 : e ≠ 83) (h2 : e ≠ 5) : w1.ownsRow base e size v n xs := by
  refine ⟨ho.1, ?_⟩
  rcases ho.2 with k | ⟨g, cap, cur, rfl, hb, hg, rest⟩
  · exact .inl k
  · exact .inr ⟨g, cap, cur, rfl, hb, (h.block g cur e hg h1 h2).trans hg, rest⟩
theorem KeepB.set {w : World} {b o : Nat} {cs : Array Value} (hb : w.heap[b]? = some (.cells cs 83 (0, 0))) (v : Value) : KeepB w (w.setCell ⟨b, o, none⟩ v) :=
  ⟨by simp, fun k cs' t hk h1 _ => Below.heap_setCell w ⟨b, o, none⟩ v k (fun e => by
    have e : k = b := e
    subst e
    rw [hb] at hk
    injection hk with hk
    injection hk with _ ht _
    exact h1 ht.symm)⟩
theorem KeepB.grown {w w1 : World} {base : Nat} {v : Value} {n : Nat} {xs : List Value} (ho : w.ownsRow base 5 1 v n xs) (hg : w.grownBy w1 v.ownBlock) : KeepB w w1 :=
  ⟨hg.size, fun k cs t hk _ h2 => hg.block k (Array.getElem?_eq_some_iff.1 hk).1 (fun e => by
    rcases ho.2 with ⟨rfl, _⟩ | ⟨g, cap, cur, rfl, _, hg2, _⟩
    · cases e
    · have e : g = k := Option.some.inj e.symm
      subst e
      rw [hg2] at hk
      injection hk with hk
      injection hk with _ ht _
      exact h2 ht.symm)⟩
theorem bldSize : (Tryz.prog.info? 83).map (·.size) = some 2 := by kernel_rfl
theorem bldByte : (Tryz.prog.info? 5).map (fun i => (i.zero, i.size, i.bytes)) = some (some (.int .u8 0), 1, 1) := by kernel_rfl
theorem bldLies : liesAt Tryz.prog Tryz.prog.depth 83 (2 / Tryz.prog.cellsOf 83) 0 83 1 = true := by kernel_rfl

set_option maxHeartbeats 1000000 in
set_option maxRecDepth 100000 in
theorem bld_used (b : Nat) (w : World) (h0 : w.cell? ⟨b, 0, none⟩ = some (.pointer (some ⟨b, 0, none⟩))) :
    Calls Tryz.prog 80 #[.pointer (some ⟨b, 0, none⟩)] w fun e w' => e = .returned (.tuple #[]) ∧ w' = w := by
  obtain ⟨j, hj, _⟩ := Option.map_eq_some_iff.1 bldSize
  go_enter Tryz.func80, Tryz.ntmps80
  go_wp2
  rw [Lib.run_neq_ptr_same w _ Tryz.underlying81 hj]
  go_wp2
  go_end0
  exact ⟨rfl, rfl⟩
set_option maxHeartbeats 1000000 in
set_option maxRecDepth 100000 in
theorem bld_fresh (b : Nat) (w : World) (h0 : w.cell? ⟨b, 0, none⟩ = some (.pointer none)) (hsh : w.shape? b = some (83, 2)) (hfz : w.frozen? ⟨b, 0, none⟩ = false) :
    Calls Tryz.prog 80 #[.pointer (some ⟨b, 0, none⟩)] w fun e w' => e = .returned (.tuple #[]) ∧ w' = w.setCell ⟨b, 0, none⟩ (.pointer (some ⟨b, 0, none⟩)) := by
  obtain ⟨j, hj, hjs⟩ := Option.map_eq_some_iff.1 bldSize
  go_enter Tryz.func80, Tryz.ntmps80
  go_wp2
  rw [Lib.run_to_unsafe w ⟨b, 0, none⟩ Tryz.underlying81 Tryz.underlying138 hj (by rw [hjs]; decide) hsh (Nat.zero_lt_succ 1)]
  simp only [Result.andThen]
  rw [Oper.upon_value]
  go_wp2
  rw [run_callFunc_extern Tryz.func105 (by kernel_rfl) (by kernel_rfl) (by kernel_rfl) (e := Extern.AbiNoEscape.same) (by kernel_rfl)]
  rw [Lib.run_noEscape]
  simp only [Result.andThen]
  rw [Oper.upon_value]
  go_wp2
  rw [Lib.run_from_unsafe w ⟨b, 0, none⟩ Tryz.underlying138 Tryz.underlying81 hj hsh bldLies]
  simp only [Result.andThen]
  rw [Oper.upon_value]
  go_wp2
  go_end0
  exact ⟨rfl, rfl⟩
theorem bld_check (B b : Nat) (bs : List Value) (w : World) (h : IsBld B b bs w) :
    Calls Tryz.prog 80 #[.pointer (some ⟨b, 0, none⟩)] w fun e w' => e = .returned (.tuple #[]) ∧ BldAt B b bs w' ∧ Below B w w' ∧ KeepB w w' := by
  rcases h with h | h
  · refine (bld_fresh b w h.cell0 h.shape h.frozen0).mono ?_
    rintro e w' ⟨rfl, rfl⟩
    obtain ⟨hB, v, hbk, hr⟩ := h
    exact ⟨rfl, Lib.BuilderAt.used ⟨hB, v, hbk, hr⟩ _, (Below.refl B w).setCell (p := ⟨b, 0, none⟩) hB _, KeepB.set hbk _⟩
  · refine (bld_used b w h.cell0).mono ?_
    rintro e w' ⟨rfl, rfl⟩
    exact ⟨rfl, h, Below.refl B _, KeepB.refl _⟩
set_option maxHeartbeats 2000000 in
set_option maxRecDepth 100000 in
theorem bld_byte (B b : Nat) (bs : List Value) (c : Int) (w : World) (h : IsBld B b bs w) (hlen : bs.length + 1 ≤ 140737488355328) (hBw : B ≤ w.heap.size) :
    Calls Tryz.prog 48 #[.pointer (some ⟨b, 0, none⟩), .int .u8 c] w fun e w' => e = .returned .nilIface ∧ BldAt B b (bs ++ [.int .u8 c]) w' ∧ Below B w w' ∧ KeepB w w' := by
  obtain ⟨i0, hi, hz0, hz1, hz2⟩ := info_parts bldByte
  have hC := hide (bld_check B b bs w h)
  clear h
  go_enter Tryz.func48, Tryz.ntmps48
  go_wp2_with fail
  refine Calls.mono hC.out ?_
  rintro e w1 ⟨rfl, h1, hb1, hk1⟩
  have hk1 := hide hk1
  obtain ⟨hB, v, hbk, hown, hne⟩ := h1
  have c0 : w1.cell? ⟨b, 0, none⟩ = some (.pointer (some ⟨b, 0, none⟩)) := by rw [Lib.cell_of_heap hbk]; rfl
  have c1 : w1.cell? ⟨b, 1, none⟩ = some v := by rw [Lib.cell_of_heap hbk]; rfl
  go_wp2_with (at_builtin; refine wpList_append_own _ rfl _ _ 80 rfl B 5 i0 (.int .u8 0) 1 1 Tryz.underlying80 hi hz0 hz1 hz2 rfl (by decide) _ _ _ rfl (hown.alloc _) ⟨w1.heap.size, 0, none⟩ 1 1 [.int .u8 c] rfl rfl ?c1 ?c2 ?c3 ?c4 ?c5 ?_)
  case c1 =>
    intro j u hj
    match j, hj with
    | 0, hj => simp at hj; subst hj; simp [Addr.add]
  case c2 => intro u hu; simp at hu; subst hu; rfl
  case c3 => unfold maxLen; omega
  case c4 => omega
  case c5 => have := hb1.size; simp; omega
  intro v' w2 hown' hgrow _
  have hlt : b < w1.heap.size := by
    rcases Nat.lt_or_ge b w1.heap.size with h' | h'
    · exact h'
    · simp [Array.getElem?_eq_none h'] at hbk
  have hb2 : w2.heap[b]? = some (.cells #[.pointer (some ⟨b, 0, none⟩), v] 83 (0, 0)) := by
    rw [hgrow.block b (by simp; omega) (fun e => hne e.symm), Lib.alloc_old w1 _ b hlt]
    exact hbk
  have d0 : w2.cell? ⟨b, 0, none⟩ = some (.pointer (some ⟨b, 0, none⟩)) := by rw [Lib.cell_of_heap hb2]; rfl
  have d1 : w2.cell? ⟨b, 1, none⟩ = some v := by rw [Lib.cell_of_heap hb2]; rfl
  have f1 : w2.frozen? ⟨b, 1, none⟩ = false := Lib.frozen_of_heap hb2 1
  obtain ⟨g, cap, rfl⟩ : ∃ g cap, v' = .slice (some ⟨g, 0, none⟩) (bs.length + 1) cap := by
    rcases hown'.2 with ⟨_, h0⟩ | ⟨g, cap, cur, hv, _⟩
    · omega
    · exact ⟨g, cap, hv⟩
  go_wp2
  go_ret
  refine ⟨rfl, ?_, ?_, ?_⟩
  · exact Lib.BuilderAt.put (T := 83) (e := 5) hB hb2 (bs' := bs ++ [.int .u8 c]) (by simpa using hown') (by decide)
  · exact ((hb1.alloc (by have := hb1.size; omega) _).grown hgrow (by have := hb1.size; simp; omega) (fun k hk => (hown.lt k hk).1)).setCell (p := ⟨b, 1, none⟩) hB _
  · exact ((hk1.out.trans (KeepB.below (balloc0 w1 _))).trans (KeepB.grown (hown.alloc _) hgrow)).trans (KeepB.set hb2 _)
set_option maxHeartbeats 2000000 in
set_option maxRecDepth 100000 in
theorem bld_text (B b : Nat) (bs : List Value) (s : ByteArray) (w : World) (h : IsBld B b bs w) (hlen : bs.length + s.size ≤ 140737488355328) (hBw : B ≤ w.heap.size) :
    Calls Tryz.prog 47 #[.pointer (some ⟨b, 0, none⟩), .string s] w fun e w' => e = .returned (.tuple #[.int .i64 s.size, .nilIface]) ∧ BldAt B b (bs ++ Lib.strCells s) w' ∧ Below B w w' ∧ KeepB w w' := by
  obtain ⟨i0, hi, hz0, hz1, hz2⟩ := info_parts bldByte
  have hC := hide (bld_check B b bs w h)
  clear h
  go_enter Tryz.func47, Tryz.ntmps47
  go_wp2_with fail
  refine Calls.mono hC.out ?_
  rintro e w1 ⟨rfl, h1, hb1, hk1⟩
  have hk1 := hide hk1
  obtain ⟨hB, v, hbk, hown, hne⟩ := h1
  have c0 : w1.cell? ⟨b, 0, none⟩ = some (.pointer (some ⟨b, 0, none⟩)) := by rw [Lib.cell_of_heap hbk]; rfl
  have c1 : w1.cell? ⟨b, 1, none⟩ = some v := by rw [Lib.cell_of_heap hbk]; rfl
  go_wp2_with (at_builtin; refine Lib.wpList_append_own_string _ rfl _ _ 80 9 rfl B 5 i0 Tryz.underlying80 Tryz.underlying9 hi hz0 hz1 hz2 _ _ _ rfl hown s rfl ?c3 ?c4 ?c5 ?_)
  case c3 => unfold maxLen; omega
  case c4 => omega
  case c5 => have := hb1.size; omega
  intro v' w2 hown' hgrow _
  have hlt : b < w1.heap.size := by
    rcases Nat.lt_or_ge b w1.heap.size with h' | h'
    · exact h'
    · simp [Array.getElem?_eq_none h'] at hbk
  have hb2 : w2.heap[b]? = some (.cells #[.pointer (some ⟨b, 0, none⟩), v] 83 (0, 0)) := by
    rw [hgrow.block b hlt (fun e => hne e.symm)]
    exact hbk
  have d0 : w2.cell? ⟨b, 0, none⟩ = some (.pointer (some ⟨b, 0, none⟩)) := by rw [Lib.cell_of_heap hb2]; rfl
  have d1 : w2.cell? ⟨b, 1, none⟩ = some v := by rw [Lib.cell_of_heap hb2]; rfl
  have f1 : w2.frozen? ⟨b, 1, none⟩ = false := Lib.frozen_of_heap hb2 1
  obtain ⟨ao, n', cap, rfl⟩ : ∃ ao n' cap, v' = .slice ao n' cap := by
    rcases hown'.2 with ⟨hv, _⟩ | ⟨g, cap, cur, hv, _⟩
    · exact ⟨_, _, _, hv⟩
    · exact ⟨_, _, _, hv⟩
  go_wp2
  go_ret2
  refine ⟨rfl, ?_, ?_, ?_⟩
  · exact Lib.BuilderAt.put (T := 83) (e := 5) hB hb2 (bs' := bs ++ Lib.strCells s) (by simpa [Lib.strCells_length] using hown') (by decide)
  · exact (hb1.grown hgrow (by have := hb1.size; omega) (fun k hk => (hown.lt k hk).1)).setCell (p := ⟨b, 1, none⟩) hB _
  · exact (hk1.out.trans (KeepB.grown hown hgrow)).trans (KeepB.set hb2 _)
end Go.Proofs.YtfjgpjgphdiliaaGreat
/- A region that draws its order, whose head only reads and calls what only makes memory, and whose tail goes in one order: one walk over all later worlds. By the prover of this repo. -/
namespace Go.Proofs.YtfjgpjgphdiliaaGreat
open Go.RowKit

section
variable {P : Program} {ops : Array Oper} {md : Region.Mode} {C : World → Prop}
/-- Each of the head, but for the first m, is waited for by a later one. -/
def sinkFrom (md : Region.Mode) (ops : Array Oper) (m n : Nat) : Bool := (List.range n).all fun i => decide (i < m) || (List.range (n + 1)).any fun j => decide (i < j) && Region.waitsFor md ops j i
theorem tail_waits1 {m n : Nat} {listed : Array Bool} (hs : sinkFrom md ops m n = true) (hc : Region.chainB md ops n = true) (hn : n < ops.size) (inv : HeadInv md ops n listed) (hlow : ∀ i, i < m → listed.getD i true = true) :
    ∀ (d i : Nat), n - i = d → i < n → listed.getD i true = false → ∀ t, n ≤ t → t ∉ Region.ready md ops listed := by
  intro d
  induction d using Nat.strongRecOn with
  | _ d ih =>
    intro i hd hi hun t ht hr
    obtain ⟨_, ot, hot, hall⟩ := mem_ready.1 hr
    have htlt : t < ops.size := (Array.getElem?_eq_some_iff.1 hot).1
    by_cases htn : t = n
    · subst htn
      have h1 := List.all_eq_true.1 hs i (List.mem_range.2 hi)
      rcases Bool.or_eq_true_iff.1 h1 with h1 | h1
      · have := hlow i (of_decide_eq_true h1)
        rw [hun] at this; cases this
      obtain ⟨j, hj, hj2⟩ := List.any_eq_true.1 h1
      simp only [Bool.and_eq_true, decide_eq_true_eq] at hj2
      obtain ⟨oj, hoj, e, he, hb, hon⟩ := Region.waitsFor_spec hj2.2
      have hjle : j ≤ t := by have := List.mem_range.1 hj; omega
      by_cases hjt : j = t
      · subst hjt
        have : oj = ot := Option.some.inj (hoj.symm.trans hot)
        subst this
        have h2 := hall e he hb
        rw [hon, getD_both hun] at h2
        cases h2
      · cases hl : listed.getD j false with
        | true =>
          have h2 := inv.closed j oj hoj hl e he hb
          rw [hon, getD_both hun] at h2
          cases h2
        | false =>
          have hjs : j < listed.size := by rw [inv.size]; omega
          exact ih (t - j) (by omega) j rfl (by omega) (getD_in hjs hl) t (Nat.le_refl _) hr
    · have h1 := List.all_eq_true.1 hc t (List.mem_range.2 htlt)
      simp only [Bool.or_eq_true, decide_eq_true_eq] at h1
      rcases h1 with h1 | h1
      · omega
      · obtain ⟨o', ho', e, he, hb, hon⟩ := Region.waitsFor_spec h1
        have : o' = ot := Option.some.inj (ho'.symm.trans hot)
        subst this
        have h2 := hall e he hb
        rw [hon, getD_both (inv.tail (t - 1) (by omega) (by omega))] at h2
        cases h2
/-- Whatever order the head takes: L then. -/
def anyHead (P : Program) (md : Region.Mode) (ops : Array Oper) (C : World → Prop) (n : Nat) (L : Array Bool → Act → Prop) : Nat → Array Bool → Act → Prop
  | 0, listed, a => L listed a
  | f + 1, listed, a => Region.ready md ops listed ≠ [] ∧ ∀ i ∈ Region.ready md ops listed, i < n ∧ qOp P ops C i (anyHead P md ops C n L f (listed.setIfInBounds i true)) a
theorem any_of_head {n g : Nat} {L : Array Bool → Act → Prop} {Q' : Exit → Act → World → Prop} (hL : ∀ listed a w, C w → L listed a → wpAny P md ops Q' g listed a w) :
    ∀ (f : Nat) (listed : Array Bool) (a : Act) (w : World), C w → anyHead P md ops C n L f listed a → wpAny P md ops Q' (f + g) listed a w
  | 0, listed, a, w, hw, h => by rw [Nat.zero_add]; exact hL _ _ _ hw h
  | f + 1, listed, a, w, hw, h => by
    rw [show f + 1 + g = (f + g) + 1 by omega]
    exact ⟨fun h0 => absurd h0 h.1, fun i hi => wpOp_of_qOp hw (fun a' w' hw' h' => any_of_head hL f _ a' w' hw' h') (h.2 i hi).2⟩
theorem getD_low {m i : Nat} {listed : Array Bool} (hlow : ∀ j, j < m → listed.getD j true = true) {q : Nat} (hq : q < m) : (listed.setIfInBounds i true).getD q true = true := by
  by_cases e : i = q
  · subst e
    rcases Nat.lt_or_ge i listed.size with h | h
    · simp [h]
    · simp [h]
  · rw [getD_set_ne true e]; exact hlow q hq
theorem anyHead_first {m n i : Nat} {oi : Oper} {v : Value} {L : Array Bool → Act → Prop} (hi : ops[i]? = some oi) (hsel : ∀ (j : Nat) (o : Oper) cs b, ops[j]? = some o → o.op ≠ .select cs b)
    (hs : sinkFrom md ops m n = true) (hc : Region.chainB md ops n = true) (hn : n < ops.size) (hin : i < n) (hdone : ∀ listed a, L listed a → ∀ j ∈ Region.ready md ops listed, n ≤ j) :
    ∀ (f : Nat) (listed : Array Bool) (a : Act), HeadInv md ops n listed → (∀ j, j < m → listed.getD j true = true) →
      (∀ j oj, ops[j]? = some oj → j ≠ i → listed.getD j true = false → (∀ e ∈ oj.after, Region.binds md e = true → e.on ≠ i) → oi.apart ops oj = true) →
      i ∈ Region.ready md ops listed → YieldsIn P ops C oi v a →
      anyHead P md ops C n L f (listed.setIfInBounds i true) (a.put oi.dst v) → anyHead P md ops C n L (f + 1) listed a := by
  intro f
  induction f with
  | zero =>
    intro listed a inv hlow _ hr hy H
    have hun := (mem_ready.1 hr).1
    refine ⟨fun h => (by rw [h] at hr; cases hr), fun j hj => ?_⟩
    have hjn : j < n := Nat.lt_of_not_le fun h => absurd hj (tail_waits1 hs hc hn inv hlow _ i rfl hin hun j h)
    refine ⟨hjn, ?_⟩
    by_cases hji : j = i
    · subst hji; exact hy.qOp hi H
    · have := hdone _ _ H j (ready_mono hj hji)
      omega
  | succ f ih =>
    intro listed a inv hlow hfree hr hy H
    have hun := (mem_ready.1 hr).1
    refine ⟨fun h => (by rw [h] at hr; cases hr), fun j hj => ?_⟩
    have hjn : j < n := Nat.lt_of_not_le fun h => absurd hj (tail_waits1 hs hc hn inv hlow _ i rfl hin hun j h)
    refine ⟨hjn, ?_⟩
    by_cases hji : j = i
    · subst hji; exact hy.qOp hi H
    · have h1 := (H.2 j (ready_mono hj hji)).2
      obtain ⟨hjun, oj, hoj, hall⟩ := mem_ready.1 hj
      have hnot : ∀ e ∈ oj.after, Region.binds md e = true → e.on ≠ i := fun e he hb heq => by
        have h1 := hall e he hb
        rw [heq, getD_both hun] at h1
        cases h1
      have h2 := qOp_put hoj (hfree j oj hoj hji hjun hnot) (fun cs b => hsel i oi cs b hi) (fun cs b => hsel j oj cs b hoj) hy h1
      have hfree' : ∀ k ok, ops[k]? = some ok → k ≠ i → (listed.setIfInBounds j true).getD k true = false →
          (∀ e ∈ ok.after, Region.binds md e = true → e.on ≠ i) → oi.apart ops ok = true := fun k ok hk hki hun hno => by
        refine hfree k ok hk hki ?_ hno
        by_cases hjk : j = k
        · subst hjk; exact hjun
        · rw [getD_set_ne true hjk] at hun; exact hun
      refine qOp_mono (fun a' h3 => ih (listed.setIfInBounds j true) a' (inv.set hj hjn) (fun q hq => getD_low hlow hq) hfree' (ready_mono hr (Ne.symm hji)) h3.1 ?_) h2
      rw [Array.setIfInBounds_comm _ _ hji]
      exact h3.2
theorem anyHead_lex {m n g : Nat} {Lq : Act → Prop} (hsel : Region.noSelect ops = true) (hs : sinkFrom md ops m n = true) (hc : Region.chainB md ops n = true) (hn : n < ops.size) :
    ∀ (l : List Oper) (k : Nat) (listed : Array Bool) (a : Act), (∀ j, j < l.length → l[j]? = ops[k + j]?) → k + l.length = n → HeadInv md ops n listed → (∀ j, j < m → listed.getD j true = true) →
    Region.lexHead md ops g l.length k listed = true → wpQuiet P ops C Lq l a →
    anyHead P md ops C n (fun listed' a' => Region.seqB md ops g n listed' = true ∧ Lq a') l.length listed a
  | [], k, listed, a, _, hk, _, _, hB, h => by
    have : k = n := by simpa using hk
    subst this
    exact ⟨by simpa [Region.lexHead] using hB, h⟩
  | o :: l, k, listed, a, hl, hk, inv, hlow, hB, h => by
    have h0 : ops[k]? = some o := by simpa using (hl 0 (by simp)).symm
    simp only [List.length_cons, Region.lexHead, Bool.and_eq_true] at hB
    obtain ⟨⟨hr, hf⟩, hB'⟩ := hB
    have hkn : k < n := by simp only [List.length_cons] at hk; omega
    have hr' : k ∈ Region.ready md ops listed := by simpa using hr
    have hst : qOp P ops C k (wpQuiet P ops C Lq l) a := by unfold qOp; simp only [h0]; exact h
    obtain ⟨v, hy, hK⟩ := yieldsIn_of_qOp h0 hst
    exact anyHead_first h0 (Region.noSelect_spec hsel) hs hc hn hkn (fun listed' a' hL => seqB_ready hL.1) l.length listed a inv hlow (Region.free_spec h0 hf) hr' hy
      (anyHead_lex hsel hs hc hn l (k + 1) _ _ (fun j hj => by have := hl (j + 1) (by simp; omega); simpa [Nat.add_assoc, Nat.add_comm 1 j] using this) (by simp only [List.length_cons] at hk; omega) (inv.set hr' hkn) (fun q hq => getD_low hlow hq) hB' hK)
/-- From a state in which the first m have come up. -/
def tailFrom (ops : Array Oper) (m n : Nat) (listed : Array Bool) : Bool :=
  Region.noSelect ops && decide (n < ops.size) && sinkFrom .any ops m n && Region.chainB .any ops n && Region.lexHead .any ops (ops.size - n) (n - m) m listed
theorem any_tail {Q : Exit → Act → World → Prop} {a : Act} {w : World} {l : List Oper} (m n : Nat) (hmn : m ≤ n) {listed : Array Bool} (hB : tailFrom l.toArray m n listed = true) (inv : HeadInv .any l.toArray n listed) (hlow : ∀ j, j < m → listed.getD j true = true) (hC : C w)
    (h : wpQuiet P l.toArray C (fun a' => ∀ w', C w' → wpList P l.toArray Q (l.drop n) a' w') ((l.take n).drop m) a) : wpAny P .any l.toArray Q (l.length - m) listed a w := by
  unfold tailFrom at hB
  simp only [Bool.and_eq_true, decide_eq_true_eq] at hB
  obtain ⟨⟨⟨⟨hsel, hn⟩, hs⟩, hc⟩, hlex⟩ := hB
  have hn' : n < l.length := by simpa using hn
  have htl : ((l.take n).drop m).length = n - m := by simp; omega
  have hdl : (l.drop n).length = l.toArray.size - n := by simp
  have H := anyHead_lex (md := .any) (g := l.toArray.size - n) hsel hs hc hn ((l.take n).drop m) m listed a (fun j hj => by
    have hj' : j < n - m := by rw [htl] at hj; exact hj
    simp [List.getElem?_drop, List.getElem?_take, show m + j < n by omega]) (by rw [htl]; omega) inv hlow (by rw [htl]; exact hlex) h
  have := any_of_head (Q' := Q) (g := l.toArray.size - n) (fun listed a' w' hw' hL => by
    have := wpAny_of_seq (md := .any) (Q' := Q) (l.drop n) n listed a' w' (fun j => by simp [List.getElem?_drop]) (by rw [hdl]; exact hL.1) (hL.2 w' hw')
    rwa [hdl] at this) _ _ _ w hC H
  rw [htl, show n - m + (l.toArray.size - n) = l.length - m by simp; omega] at this
  exact this
theorem inv_none (l : List Oper) (n : Nat) : HeadInv .any l.toArray n (Array.replicate l.toArray.size false) :=
  ⟨by simp, fun j oj _ hl => (by rw [getD_replicate_false] at hl; cases hl), fun t _ ht => getD_in (by simpa using ht) (getD_replicate_false _ _)⟩
end
/-- Over all later worlds: a head in any order, then a tail. -/
theorem wp_later_tail {P : Program} {id : Nat} {Q : Exit → Act → World → Prop} {a : Act} {w : World} {l : List Oper} (n : Nat) (hm : P.follows .mixedOrders = true) (hB : tailFrom l.toArray 0 n (Array.replicate l.toArray.size false) = true)
    (h : wpQuiet P l.toArray (fun w' => ∃ e : Later w.heap.size w, w' = e.val) (fun a' => ∀ w', (∃ e : Later w.heap.size w, w' = e.val) → wpList P l.toArray Q (l.drop n) a' w') (l.take n) a) : (Code.region id l.toArray true).wp P Q a w := by
  refine wp_region_any hm ?_
  have := any_tail (C := fun w' => ∃ e : Later w.heap.size w, w' = e.val) (w := w.drew) 0 n (Nat.zero_le _) hB (inv_none l n) (fun j hj => absurd hj (Nat.not_lt_zero _)) ⟨⟨w.drew, (Below.refl _ _).drew⟩, rfl⟩ h
  simpa using this
/-- .. where the first one is a mere copy that the tail alone waits for. -/
theorem wp_later_tail1 {P : Program} {id : Nat} {Q : Exit → Act → World → Prop} {a : Act} {w : World} {o : Oper} {l : List Oper} (n : Nat) (x : Operand) (v : Value) (hv : a.eval x = v) (ho : o.op = .move x) (hg : o.guard = none) (hm : P.follows .mixedOrders = true) (hn : 1 ≤ n)
    (hB : (tailFrom (o :: l).toArray 1 n ((Array.replicate (o :: l).toArray.size false).setIfInBounds 0 true) && (Region.free .any (o :: l).toArray (Array.replicate (o :: l).toArray.size false) 0 && (Region.ready .any (o :: l).toArray (Array.replicate (o :: l).toArray.size false)).contains 0)) = true)
    (hQ : ∀ c a' w', Q (.panic c) (a'.put o.dst v) w' → Q (.panic c) a' w')
    (h : wpQuiet P (o :: l).toArray (fun w' => ∃ e : Later w.heap.size w, w' = e.val) (fun a' => ∀ w', (∃ e : Later w.heap.size w, w' = e.val) → wpList P (o :: l).toArray Q ((o :: l).drop n) a' w') (((o :: l).take n).drop 1) (a.put o.dst v)) : (Code.region id (o :: l).toArray true).wp P Q a w := by
  subst hv
  refine wp_region_any hm ?_
  simp only [Bool.and_eq_true] at hB
  obtain ⟨hB1, hB2, hB3⟩ := hB
  have hsel : Region.noSelect (o :: l).toArray = true := by
    unfold tailFrom at hB1
    simp only [Bool.and_eq_true] at hB1
    exact hB1.1.1.1.1
  have hr : 0 ∈ Region.ready .any (o :: l).toArray (Array.replicate (o :: l).toArray.size false) := by simpa using hB3
  have e : (o :: l).toArray.size = l.length + 1 := by simp
  have hlow : ∀ j, j < 1 → ((Array.replicate (o :: l).toArray.size false).setIfInBounds 0 true).getD j true = true := fun j hj => by
    have : j = 0 := by omega
    subst this
    simp
  have k := any_tail (C := fun w' => ∃ e : Later w.heap.size w, w' = e.val) (w := w.drew) 1 n hn hB1 ((inv_none (o :: l) n).set hr hn) hlow ⟨⟨w.drew, (Below.refl _ _).drew⟩, rfl⟩ h
  rw [show (o :: l).length - 1 = l.length by simp] at k
  rw [e]
  rw [e] at hB2 hB3 k
  exact wpAny_take (i := 0) (oi := o) (v := a.eval x) (by simp) hsel hB2 hB3 hQ (.inl ⟨by unfold Region.wanted; rw [hg], fun w => by unfold execOp; rw [ho]; rfl⟩) k
end Go.Proofs.YtfjgpjgphdiliaaGreat
/- A number's decimal digits: sheet.Digits and the reference's. By the prover of this repo. -/
namespace Go.Proofs.YtfjgpjgphdiliaaGreat
open Go.RowKit

def dg (n : Nat) : UInt8 := UInt8.ofNat (48 + n % 10)
theorem dg_val (n : Nat) : (dg n).toNat = 48 + n % 10 := by
  unfold dg
  rw [UInt8.toNat_ofNat']
  have := Nat.mod_lt n (show 0 < 10 by omega)
  omega
/-- The digits, the greatest first. -/
def digF (n : Nat) : List UInt8 := if n < 10 then [dg n] else digF (n / 10) ++ [dg n]
termination_by n
decreasing_by omega
theorem digF_small {n : Nat} (h : n < 10) : digF n = [dg n] := by rw [digF, if_pos h]
theorem digF_more {n : Nat} (h : ¬ n < 10) : digF n = digF (n / 10) ++ [dg n] := by rw [digF, if_neg h]
theorem digF_ne (n : Nat) : digF n ≠ [] := by
  by_cases h : n < 10
  · rw [digF_small h]; simp
  · rw [digF_more h]; simp
/-- A number as a text. -/
def digS (n : Int) : ByteArray := if n < 0 then ⟨#[]⟩ else ⟨(digF n.toNat).toArray⟩

/-- The array's cells: so many are done. -/
theorem byte_cell {w : World} {H at_ : Nat} {cs : Array Value} {l : List UInt8} (hB : Blk w H 118 cs) (_hs : cs.size = 19) (_hl : l.length + at_ = 19) (hc : cs.toList.drop at_ = l.map bv) :
    (convert 80 9 (.slice (some ⟨H, at_, none⟩) l.length (19 - at_))).run Tryz.prog w = .ok (.string ⟨l.toArray⟩) w := by
  refine run_convert_bytes_back w _ _ 5 ⟨H, at_, none⟩ _ l Tryz.underlying80 Tryz.underlying5 Tryz.underlying9 fun j hj => ?_
  have hadd : (⟨H, at_, none⟩ : Addr).add j = ⟨H, at_ + j, none⟩ := by unfold Addr.add; split <;> simp_all
  rw [hadd, hB.cell, ← Array.getElem?_toList]
  have := congrArg (fun z => z[j]?) hc
  simp only [List.getElem?_drop, List.getElem?_map, List.getElem?_eq_getElem hj, Option.map_some] at this
  exact this
theorem pow10 (j n : Nat) (h : n < 10 ^ (j + 1)) : n / 10 < 10 ^ j := by
  rw [Nat.pow_succ] at h
  exact Nat.div_lt_of_lt_mul (by omega)

theorem slice19 (H j : Nat) (hj : j ≤ 18) (V : World) : (Instr.sliceAt 118 (.pointer (some ⟨H, 0, none⟩)) (some (.int .i64 (j : Int))) none none).run Tryz.prog V = .ok (.slice (some ⟨H, j, none⟩) (19 - j) (19 - j)) V := by
  have ha : Tryz.prog.arrayLen 118 = 19 := by kernel_rfl
  have he : Tryz.prog.elem 118 = 5 := by kernel_rfl
  have ht : Tryz.prog.underlying 118 = some (.array (Tryz.prog.arrayLen 118) (Tryz.prog.elem 118)) := by kernel_rfl
  rw [run_sliceAt_array_l V 118 ⟨H, 0, none⟩ ht .i64 (j : Int) (by omega) (by rw [ha]; omega), he, Tryz.sizeOf5 V]
  have hadd : (⟨H, 0, none⟩ : Addr).add j = ⟨H, j, none⟩ := by unfold Addr.add; split <;> simp_all
  simp only [Result.andThen_ok, slicedAt, ha, Int.toNat_natCast, Nat.mul_one]
  rw [if_neg (by omega), hadd]
/-- Between two rounds: where the next digit goes, what is left. -/
def DRel (N H : Nat) (w : World) (n at_ : Value) (wr : World) : Prop :=
  ∃ (j m : Nat) (cs : Array Value) (suf : List UInt8), n = .int .i64 m ∧ at_ = .int .i64 ((j : Int) + 1) ∧ j ≤ 18 ∧ Hid (m < 10 ^ (j + 1)) ∧ m ≤ 9223372036854775807 ∧ Blk wr H 118 cs ∧ cs.size = 19 ∧ suf.length + (j + 1) = 19 ∧ cs.toList.drop (j + 1) = suf.map bv ∧
    Hid (digF m ++ suf = digF N) ∧ Below H w wr

set_option maxRecDepth 100000 in
set_option maxHeartbeats 1000000 in
theorem sheet_digits (n : Int) (w : World) (h1 : n ≤ 9223372036854775807) : Calls Tryz.prog 49 #[.int .i64 n] w fun e w' => e = .returned (.string (digS n)) ∧ Below w.heap.size w w' := by
  unfold digS
  by_cases h0 : n < 0
  · rw [if_pos h0]
    go_enter Tryz.func49, Tryz.ntmps49
    go_wp2_with fail
    go_ret
    exact ⟨rfl, Below.refl _ _⟩
  · rw [if_neg h0]
    obtain ⟨N, rfl⟩ := Int.eq_ofNat_of_zero_le (show 0 ≤ n by omega)
    rw [Int.toNat_natCast]
    have hb0 := hide (balloc0 w (.cells (Array.replicate 19 (Value.int .u8 0)) 118))
    have hB0 : Hid (Blk (w.alloc (.cells (Array.replicate 19 (Value.int .u8 0)) 118)) w.heap.size 118 (Array.replicate 19 (Value.int .u8 0))) := Blk.made _ _ _
    have hp : N < 10 ^ (19 - 0) := by show N < 10000000000000000000; omega
    replace hp := hide hp
    go_enter Tryz.func49, Tryz.ntmps49
    go_wp2_with fail
    go_loopw [0, 4] (fun n at_ wr => DRel N w.heap.size w n at_ wr) (fun _ at_ _ => (intOf at_).toNat)
    case atStart => exact ⟨18, N, _, [], rfl, rfl, Nat.le_refl _, hp.out, by omega, hB0.out, by simp, rfl, by simp, by show _ = _; rw [List.append_nil], hb0.out⟩
    case round =>
      clear hb0 hB0 hp h0 h1
      obtain ⟨j, m, cs, suf, rfl, rfl, hj, hm, hm2, hB, hs, hsl, hdr, hgo, hbel⟩ := hrel
      have hp2 := hide (pow10 j m hm.out)
      have f0 : wr.frozen? ⟨w.heap.size, j, none⟩ = false := hB.free j
      have hlt : j < cs.size := by omega
      have hc0 : wr.cell? ⟨w.heap.size, j, none⟩ = some cs[j] := by rw [hB.cell]; simp
      have hB2 := hB.set j (.int .u8 (48 + (m : Int) % 10))
      have hdr2 : (cs.setIfInBounds j (.int .u8 (48 + (m : Int) % 10))).toList.drop j = (dg m :: suf).map bv := by
        rw [Array.toList_setIfInBounds, List.drop_eq_getElem_cons (by simp; omega), List.map_cons]
        congr 1
        · simp [bv, dg_val]
        · rw [List.drop_set_of_lt (by omega)]; exact hdr
      have hlen := hB.lt
      have hbel2 := hide (hbel.setCell (p := ⟨w.heap.size, j, none⟩) (Nat.le_refl _) (.int .u8 (48 + (m : Int) % 10)))
      have hmi : Hid ((m : Int) / 10 = ((m / 10 : Nat) : Int)) := by show _ = _; omega
      have hsl2 := fun V => slice19 w.heap.size j hj V
      have hsn : 19 - j = (dg m :: suf).length := by simp; omega
      rw [hsn] at hsl2
      replace hsn := hide hsn
      replace hdr2 := hide hdr2
      by_cases h10 : m < 10
      · have hres : Hid (digF N = dg m :: suf) := by show _ = _; rw [← hgo.out, digF_small h10]; rfl
        have hcvt := byte_cell hB2 (by simp [hs]) (l := dg m :: suf) (at_ := j) (by simp; omega) hdr2.out
        rw [hsn.out] at hcvt
        generalize (dg m :: suf).length = q at hsl2 hcvt
        go_wp2_with fail
        go_ret
        exact ⟨by rw [hres.out]; rfl, hbel2.out⟩
      · obtain ⟨i, rfl⟩ : ∃ i, j = i + 1 := by
          refine ⟨j - 1, ?_⟩
          have := hp2.out
          have hj0 : j ≠ 0 := fun h => by subst h; simp at this; omega
          omega
        have hgo2 : Hid (digF (m / 10) ++ (dg m :: suf) = digF N) := by show _ = _; rw [← hgo.out, digF_more h10, List.append_assoc]; rfl
        have hne : ((m : Int) / 10 == 0) = false := by simp; omega
        have hB3 := hide hB2
        clear hB2 hsl2
        go_wp2_with fail
        go_roundw
        case rel => exact ⟨i, m / 10, _, dg m :: suf, by rw [← hmi.out], by simp, by omega, hp2, by omega, hB3.out, by simp [hs], by simp; omega, hdr2.out, hgo2, hbel2.out⟩
        case measure => simp [intOf]; omega

theorem dg_text (V : World) (m : Nat) : (convert 80 9 (.slice (some ⟨V.heap.size, 0, none⟩) 1 1)).run Tryz.prog (V.alloc (.cells #[.int .u8 (48 + (m : Int) % 10)] 5)) = .ok (.string ⟨#[dg m]⟩) (V.alloc (.cells #[.int .u8 (48 + (m : Int) % 10)] 5)) := by
  have hB := Blk.made V 5 #[.int .u8 (48 + (m : Int) % 10)]
  refine run_convert_bytes_back _ _ _ 5 ⟨V.heap.size, 0, none⟩ 1 [dg m] Tryz.underlying80 Tryz.underlying5 Tryz.underlying9 fun j hj => ?_
  obtain rfl : j = 0 := by simpa using hj
  have hadd : (⟨V.heap.size, 0, none⟩ : Addr).add 0 = ⟨V.heap.size, 0, none⟩ := by simp [Addr.add]
  rw [hadd, hB.cell]
  simp [dg_val]

end Go.Proofs.YtfjgpjgphdiliaaGreat

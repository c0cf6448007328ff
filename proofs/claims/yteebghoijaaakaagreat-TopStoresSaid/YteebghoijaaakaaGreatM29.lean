/- Part 29 of the proof: texts joined by this repo's tools/merge2.py (ShtC ShtI ShtB RPou). By the prover of this repo. -/
import Derived.Test.YteebghoijaaakaaGreatM27
import Derived.Test.YteebghoijaaakaaGreatM5
import Derived.RangeFuncBox
import Derived.Test.YteebghoijaaakaaGreatM28
import Derived.Test.YteebghoijaaakaaGreatM17
import Derived.Test.YteebghoijaaakaaGreatM7
import Derived.Test.YteebghoijaaakaaGreatM24
import Derived.StillTailTactics
set_option linter.unusedVariables false
set_option linter.unusedSimpArgs false
/- The walk of strings.Cut at the end of a line. By the prover of this repo. -/
namespace Go.Proofs.YteebghoijaaakaaGreat
namespace SH
open Go.RowKit Go.Shelf
open WirM

theorem lite_cut_nl (l r : List UInt8) (w : World) (hl : ∀ c ∈ l, c ≠ 10) (hs : (l ++ 10 :: r).length ≤ 1000000000) : Calls Tryz.prog 186 #[.string (str (l ++ 10 :: r)), .string ⟨#[10]⟩] w fun e w' => e = .returned (.tuple #[.string (str l), .string (str r), .bool true]) ∧ ∃ n, w' = w.drewN n := by
  have hI := hide (fun V => Tryz.stringslite_Index_one (str (l ++ 10 :: r)) 10 V)
  have hi : Lib.indexByte (str (l ++ 10 :: r)).data.toList 10 = l.length := first_nl l r hl
  rw [hi] at hI
  have hz : (str (l ++ 10 :: r)).size = (l ++ 10 :: r).length := rfl
  have hlen : (l ++ 10 :: r).length = l.length + (r.length + 1) := by simp
  have e1 := hide (str_ext (a := (str (l ++ 10 :: r)).extract 0 l.length) (b := str l) (by rw [extract_take]; simp [str]))
  have e2 := hide (str_ext (a := (str (l ++ 10 :: r)).extract (l.length + 1) (str (l ++ 10 :: r)).size) (b := str r) (by rw [extract_drop]; simp [str]))
  clear hi hl
  generalize str (l ++ 10 :: r) = S at *
  generalize (l ++ 10 :: r).length = N at *
  generalize l.length = i at *
  have c1 : (0 : Int) ≤ ↑i := by omega
  have c2 : (↑i : Int) ≤ ↑S.size := by omega
  have c3 : (0 : Int) ≤ ↑i + 1 := by omega
  have c4 : (↑i + 1 : Int) ≤ ↑S.size := by omega
  have hsz : S.size ≤ 1000000000 := by omega
  have hi1 : i + 1 ≤ 1000000000 := by omega
  clear hz hlen
  go_enter Tryz.func186, Tryz.ntmps186
  go_wp2_with (go_at_call 196; refine (hI.out _).mono ?_; rintro e w1 ⟨rfl, rfl⟩)
  have hm : Tryz.prog.follows .mixedOrders = true := by kernel_rfl
  go_region_o
  go_wp2
  go_ret3
  exact ⟨by rw [← e1.out, ← e2.out]; rfl, 1, rfl⟩
theorem cut_nl (l r : List UInt8) (w : World) (hl : ∀ c ∈ l, c ≠ 10) (hs : (l ++ 10 :: r).length ≤ 1000000000) : Calls Tryz.prog 159 #[.string (str (l ++ 10 :: r)), .string ⟨#[10]⟩] w fun e w' => e = .returned (.tuple #[.string (str l), .string (str r), .bool true]) ∧ ∃ n, w' = w.drewN n := by
  have h := hide (lite_cut_nl l r w hl hs)
  generalize str (l ++ 10 :: r) = S at *
  generalize str l = A at *
  generalize str r = B at *
  clear hl hs
  go_enter Tryz.func159, Tryz.ntmps159
  go_wp2_with (go_at_call 186; refine h.out.mono ?_; rintro e w1 ⟨rfl, n, rfl⟩)
  go_ret3
  exact ⟨rfl, n, rfl⟩
end SH
end Go.Proofs.YteebghoijaaakaaGreat
/- The iterator of sheet.lines, by the contract that a range over it wants: it keeps its rest in a cell of its own. By the prover of this repo. -/
namespace Go.Proofs.YteebghoijaaakaaGreat
namespace SH
open Go.RowKit
open WirM

attribute [local go_sem] Oper.semAt_some

/-- A line and its number. -/
abbrev NLine := Nat × List UInt8
def encN (x : NLine) : Array Value := #[.int .i64 (x.1 : Int), .string (str x.2)]
/-- The iterator's cell lies as it lay. -/
def KeepS (z : Nat) (A B : World) : Prop := B.heap[z]? = A.heap[z]?
/-- What comes next. -/
def NxL (rows : List (List UInt8)) (pre : List NLine) (x : NLine) : Prop := ∃ j, j < rows.length ∧ pre = (numb 1 rows).take j ∧ (numb 1 rows)[j]? = some x
theorem numb_one {rows : List (List UInt8)} {j : Nat} (h : j < rows.length) : (numb 1 rows)[j]? = some (1 + j, rows[j]) := by
  rw [numb_get, List.getElem?_eq_getElem h]; rfl
theorem numb_step {rows : List (List UInt8)} {j : Nat} (h : j < rows.length) : (numb 1 rows).take (j + 1) = (numb 1 rows).take j ++ [(1 + j, rows[j])] := by
  have h2 : j < (numb 1 rows).length := by rw [numb_len]; exact h
  rw [List.take_succ_eq_append_getElem h2]
  have := numb_one h
  rw [List.getElem?_eq_getElem h2] at this
  rw [Option.some.inj this]
theorem joinNl_drop {rows : List (List UInt8)} {j : Nat} (h : j < rows.length) : joinNl (rows.drop j) = rows[j] ++ 10 :: joinNl (rows.drop (j + 1)) := by
  rw [List.drop_eq_getElem_cons h]; rfl
theorem joinNl_le : ∀ (rows : List (List UInt8)) (j : Nat), (joinNl (rows.drop j)).length ≤ (joinNl rows).length
  | rows, 0 => by rw [List.drop_zero]; exact Nat.le_refl _
  | [], j + 1 => by simp
  | x :: r, j + 1 => by
    rw [List.drop_succ_cons]
    have := joinNl_le r j
    rw [joinNl, List.length_append, List.length_cons]
    omega
theorem str_nil_ne {l : List UInt8} (h : l ≠ []) : ((str l).toList == []) = false := by
  rw [ByteArray.toList_eq]
  cases l with
  | nil => exact absurd rfl h
  | cons c r => rfl
set_option maxRecDepth 100000 in
set_option maxHeartbeats 1000000 in
theorem lines1_in (n : Nat) (hn : 1 ≤ n) (l z B : Nat) (rows : List (List UInt8)) (h10 : ∀ x ∈ rows, ∀ c ∈ x, c ≠ 10) (hlen : (joinNl rows).length ≤ 100000000) (hrl : rows.length ≤ 1000000) (J Jx : List NLine → World → Prop) (hJ : AbC B z J)
    (hY : ∀ pre x W, J pre W → NxL rows pre x → YieldAt Fence.wide (n - 1) Tryz.prog l (encN x) W fun e W' =>
      (e = .returned (.bool true) ∧ J (pre ++ [x]) W' ∧ KeepS z W W') ∨ (e = .returned (.bool false) ∧ Jx (pre ++ [x]) W'))
    (W : World) (b0 : Boxed W z 9 (.string (str (joinNl rows)))) (h0 : J [] W) :
    CallsIn Fence.wide n Tryz.prog 158 #[.func (.yield l) #[] #[], .pointer (some ⟨z, 0, none⟩)] W fun e W' => (∃ v, e = .returned v) ∧
      ((∃ ys : List NLine, ys = numb 1 rows ∧ J ys W') ∨ (∃ pre : List NLine, True ∧ Jx pre W')) := by
  have hcut := hide (fun (j : Nat) (hj : j < rows.length) (V : World) => cut_nl rows[j] (joinNl (rows.drop (j + 1))) V (h10 _ (List.getElem_mem hj)) (by rw [← joinNl_drop hj]; have := joinNl_le rows j; omega))
  have c0 := b0.cell
  have b0 := hide b0
  refine callsIn_of_wp Tryz.func158 rfl trivial ?_ rfl
  simp only [Tryz.ntmps158, List.size_toArray, List.length_cons, List.length_nil, Nat.reduceAdd, Nat.reduceSub, Array.replicate_succ, Array.replicate_zero, List.push_toArray, List.append_toArray, List.nil_append, List.cons_append]
  gi_wp2
  gi_loopw [3] (fun kv wr => ∃ j : Nat, kv = .int .i64 ((1 + j : Nat) : Int) ∧ j ≤ rows.length ∧ Boxed wr z 9 (.string (str (joinNl (rows.drop j)))) ∧ J ((numb 1 rows).take j) wr) (fun kv _ => rows.length + 1 - (intOf kv).toNat)
  case atStart => exact ⟨0, rfl, by omega, b0.out, h0⟩
  case round =>
    clear b0 c0 h0
    obtain ⟨j, rfl, hj, b0, hJs⟩ := hrel
    have c0 := b0.cell
    by_cases hlt : j < rows.length
    · have hC := hide (hcut.out j hlt)
      have hne : ((str (joinNl (rows.drop j))).toList == []) = false := str_nil_ne (by rw [joinNl_drop hlt]; simp)
      rw [← joinNl_drop hlt] at hC
      have hstep := hide (numb_step hlt)
      have hYY := hide (fun nq => hY _ (1 + j, rows[j]) (wr.drewN nq) (hJ _ _ _ none hJs ⟨rfl, rfl, rfl, Nat.le_refl _, fun _ _ _ => rfl⟩ (fun r e => by cases e)) ⟨j, hlt, rfl, numb_one hlt⟩)
      rw [← hstep.out] at hYY
      have b1 := fun nq W3 (hk : KeepS z (wr.drewN nq) W3) => (show Boxed W3 z 9 (.string (str (joinNl (rows.drop j)))) from Eq.trans hk b0)
      replace b1 := hide b1
      have e1 : (((1 + j : Nat) : Int)) = 1 + (j : Int) := by omega
      have b0 := hide b0
      clear hJs
      gi_wp2_with (refine ⟨trivial, ?_⟩; gi_at_call 159; refine (callsIn_wide.2 (hC.out _)).mono ?_; rintro e w' ⟨rfl, nq, rfl⟩; obtain ⟨fn, tmps, assign, body, hy, hR⟩ := hYY.out nq; dsimp only [encN] at hy; rw [e1] at hy)
      refine hR.mono ?_
      rintro e W3 (⟨rfl, hJ3, hk3⟩ | ⟨rfl, hJx3⟩)
      · have d0 := b1.out nq W3 hk3
        have e0 := d0.cell
        have f0 := d0.frozen
        have hJ4 := hide (hJ _ _ _ _ hJ3 (grownBy_setCell' W3 z (.string (str (joinNl (rows.drop (j + 1)))))) (fun r e => by cases e; exact .inl rfl))
        have g0 := d0.set (.string (str (joinNl (rows.drop (j + 1)))))
        clear hR hy
        gi_wp2
        go_roundw
        case rel => exact ⟨j + 1, by go_num, by omega, g0, hJ4.out⟩
        case measure => simp [intOf]; omega
      · clear hR hy
        gi_wp2
        refine bodyPost_ret (results_none rfl _ _ _) rfl ?_
        exact ⟨⟨_, rfl⟩, .inr ⟨_, trivial, hJx3⟩⟩
    · obtain rfl : j = rows.length := by omega
      have hnil : rows.drop rows.length = [] := List.drop_of_length_le (Nat.le_refl _)
      rw [hnil] at c0
      have c1 : wr.cell? ⟨z, 0, none⟩ = some (.string ⟨#[]⟩) := c0
      have hall : Hid ((numb 1 rows).take rows.length = numb 1 rows) := List.take_of_length_le (by rw [numb_len]; exact Nat.le_refl _)
      have hemp : ((⟨#[]⟩ : ByteArray).toList == []) = true := by rw [ByteArray.toList_eq]; rfl
      clear c0 b0 hnil hcut
      gi_wp2
      go_end0
      exact ⟨⟨_, rfl⟩, .inl ⟨_, rfl, by rw [← hall.out]; exact hJs⟩⟩
end SH
end Go.Proofs.YteebghoijaaakaaGreat
/- The walk of sheet.Node: the node of its own ends. By the prover of this repo. -/
namespace Go.Proofs.YteebghoijaaakaaGreat
namespace SH
open Go.RowKit
open TwigM RollM StoM VaryM WirM

set_option maxRecDepth 100000 in
set_option maxHeartbeats 1000000 in
theorem sheet_node (L id : Int) (w : World) (hL1 : 1 ≤ L) (hL2 : L ≤ 48) (h0 : 1 ≤ id) (h1 : id < 2 * pw L) :
    Calls Tryz.prog 161 #[.int .i64 L, .int .i64 (loF L id), .int .i64 (loF L id + pw (L - lg id) - 1)] w fun e w' => e = .returned (.tuple #[.int .i64 id, .bool true]) ∧ ∃ n, w' = w.drewN n := by
  obtain ⟨a, b, ha, hb, a1, a2, b1, b2, hm⟩ := node_back hL1 hL2 h0 h1
  have hp48 := pw_le48 hL2
  have hlo : loF L id ≤ 9223372036854775807 := by
    unfold leafF at ha
    split at ha
    · omega
    · simp at ha
  have hhi : loF L id + pw (L - lg id) - 1 ≤ 9223372036854775807 := by
    unfold leafF at hb
    split at hb
    · omega
    · simp at hb
  have hA := hide (fun W => leaf_c L (loF L id) W hlo)
  have hB := hide (fun W => leaf_c L (loF L id + pw (L - lg id) - 1) W hhi)
  rw [ha] at hA
  rw [hb] at hB
  have hM := hide (fun W => meet_yes a b W a1 a2 b1 b2)
  rw [hm] at hM
  have hE := hide (fun W => ends_yes L id W hL1 hL2 h0 h1)
  clear ha hb hm hlo hhi
  generalize loF L id + pw (L - lg id) - 1 = hi at *
  generalize loF L id = lo at *
  have e1 : (lo != lo) = false := by simp
  have e2 : (hi != hi) = false := by simp
  go_enter Tryz.func161, Tryz.ntmps161
  go_wp2_with fail
  refine Calls.mono (hA.out _) ?_
  rintro e w1 ⟨rfl, rfl⟩
  go_wp2_with fail
  refine Calls.mono (hB.out _) ?_
  rintro e w1 ⟨rfl, rfl⟩
  go_wp2_with fail
  refine Calls.mono (hM.out _) ?_
  rintro e w1 ⟨rfl, rfl⟩
  go_wp2_with fail
  refine Calls.mono (hE.out _) ?_
  rintro e w1 ⟨rfl, n, rfl⟩
  go_wp2_with fail
  go_ret2
  exact ⟨rfl, n, rfl⟩
end SH
end Go.Proofs.YteebghoijaaakaaGreat
/- The walks of layer 10's reference, on: one bag poured into another one. By the prover of this repo. -/
namespace Go.Proofs.YteebghoijaaakaaGreat
namespace BG
open Go.RowKit
open TwigM BagM

/-- What a round of the reference's pouring holds. -/
def RPourRel (w : World) (q : Nat) (L M : Int) (v v2 : Value) (r : List Rg) (n : Nat) (G : List Rg) (kv : Value) (wr : World) : Prop :=
  ∃ (i : Nat) (l' : List Rg) (u : Value), i ≤ n ∧ kv = .int .i64 i ∧ Blk wr q 53 #[.int .i64 L, u] ∧ Blk wr (w.heap.size + 1) 53 #[.int .i64 M, v2] ∧ Blk wr (w.heap.size + 1 + 1) 53 #[.int .i64 0, .slice none 0 0] ∧ Nds wr u l' ∧ Ok l' ∧ l'.length ≤ 3000 + i ∧
    Hid (putAll l' (r.drop i) = G) ∧ tot l' + tot (r.drop i) ≤ 72057594037927935 ∧ Below w.heap.size w wr ∧ ∀ j, u.ownBlock = some j → j < wr.heap.size ∧ j ≠ q ∧ j ≠ w.heap.size + 1 + 1 ∧ (v.ownBlock = some j ∨ w.heap.size ≤ j)

set_option maxRecDepth 100000 in
set_option maxHeartbeats 4000000 in
theorem rpour_c (L M : Int) (l r : List Rg) (v v2 : Value) (w : World) (hv : Nds w v l) (hv2 : Nds w v2 r) (ho : Ok l) (hr : Ok r) (hl : l.length ≤ 3000) (hrl : r.length ≤ 3000) (hvb : ∀ j, v.ownBlock = some j → j < w.heap.size) :
    Calls Tryz.prog 21 #[rb L v, rb M v2] w (RGives w L v (pourF L M l r).1 (pourF L M l r).2) := by
  have hT1 := hide (fun W (hW : Below w.heap.size w W) => rtotal_c L l v W (hv.kept hW) ho (by omega))
  have hT2 := hide (fun W (hW : Below w.heap.size w W) => rtotal_c M r v2 W (hv2.kept hW) hr (by omega))
  have hkv := hide (fun W (hW : Below w.heap.size w W) => hv.kept hW)
  have hkv2 := hide (fun W (hW : Below w.heap.size w W) => hv2.kept hW)
  have hvbh := hide hvb
  obtain ⟨A, c, rfl, -, -, -, -⟩ := hv
  obtain ⟨B, d, rfl, -, -, -, -⟩ := hv2
  obtain ⟨n1, en1⟩ : ∃ n1, Hid (l.length = n1) := ⟨_, rfl⟩
  obtain ⟨n2, en2⟩ : ∃ n2, Hid (r.length = n2) := ⟨_, rfl⟩
  rw [en1.out] at hT1 hkv hvbh hl ⊢
  rw [en2.out] at hT2 hkv2 hrl ⊢
  by_cases hLM : L = M
  · subst hLM
    have hoh := hide ho
    have hrp := hide hr.pos
    have hrt := hide (fun p hp => tot_le r hr.pos p hp)
    have hm1 := ho.most
    have hm2 := hr.most
    have ht1 := tot_nonneg l ho.pos
    have ht2 := tot_nonneg r hr.pos
    obtain ⟨t1, e1⟩ : ∃ t1, Hid (tot l = t1) := ⟨_, rfl⟩
    obtain ⟨t2, e2⟩ : ∃ t2, Hid (tot r = t2) := ⟨_, rfl⟩
    rw [e1.out] at hT1 hm1 ht1
    rw [e2.out] at hT2 hm2 ht2
    obtain ⟨W0, hW0⟩ : ∃ W0, Hid (W0 = ((w.alloc (.cells #[.int .i64 L, .slice A n1 c] 53)).alloc (.cells #[.int .i64 L, .slice B n2 d] 53)).alloc (.cells #[.int .i64 0, .slice none 0 0] 53)) := ⟨_, rfl⟩
    have hb0 : Below w.heap.size w W0 := by rw [hW0.out]; exact balloc (balloc (balloc0 _ _) _) _
    have hA : Blk W0 w.heap.size 53 #[.int .i64 L, .slice A n1 c] := by rw [hW0.out]; exact ((Blk.made w _ _).alloc _).alloc _
    have hB : Blk W0 (w.heap.size + 1) 53 #[.int .i64 L, .slice B n2 d] := by rw [hW0.out]; exact (Blk.made_at _ _ _ (by simp)).alloc _
    have hC : Blk W0 (w.heap.size + 1 + 1) 53 #[.int .i64 0, .slice none 0 0] := by rw [hW0.out]; exact Blk.made_at _ _ _ (by simp)
    have hz0 : Hid (W0.heap.size = w.heap.size + 3) := by show _ = _; rw [hW0.out]; simp
    have a0 : W0.cell? ⟨w.heap.size, 0, none⟩ = some (.int .i64 L) := by rw [hA.cell]; rfl
    have a1 : W0.cell? ⟨w.heap.size, 1, none⟩ = some (.slice A n1 c) := by rw [hA.cell]; rfl
    have a2 : W0.cell? ⟨w.heap.size + 1, 0, none⟩ = some (.int .i64 L) := by rw [hB.cell]; rfl
    have a3 : W0.cell? ⟨w.heap.size + 1, 1, none⟩ = some (.slice B n2 d) := by rw [hB.cell]; rfl
    have a4 := hA.lt
    have a5 := hB.lt
    have q1 := hide (fun (e : Later W0.heap.size W0) => hT1.out e.val (hb0.trans (e.property.mono hb0.size)))
    have q2 := hide (fun (e : Later W0.heap.size W0) => hT2.out e.val (hb0.trans (e.property.mono hb0.size)))
    have hkW := hide (fun W (hW : Below W0.heap.size W0 W) => And.intro (hA.kept hW) (And.intro (hB.kept hW) (hC.kept hW)))
    have hb0h := hide hb0
    have hsum : Hid (t2 ≤ 72057594037927935 - t1 → tot l + tot r ≤ 72057594037927935) := fun h => by rw [e1.out, e2.out]; omega
    clear ho hr hA hB hC hb0 hvb
    by_cases hfull : 72057594037927935 - t1 < t2
    · have hF : Hid (pourF L L l r = (l, 5)) := by show _ = _; unfold pourF; rw [if_neg (by simp), e1.out, e2.out, if_pos hfull]
      rw [hF.out]
      go_enter Tryz.func21, Tryz.ntmps21
      go_wp2_with fail
      rw [← hW0.out]
      refine wp_region_later (by kernel_rfl) (by kernel_rfl) ?_
      repeat (go_big_quiet_step (first
        | (go_at_call 58; (with_reducible exact calls_later (q2.out _)))
        | (go_at_call 58; (with_reducible exact calls_later (q1.out _)))
        | exact rfl))
      refine wpQuiet_nil ?_
      rintro _ ⟨e3, rfl⟩
      have hb1 := e3.property
      generalize e3.val = W1 at *
      obtain ⟨hA1, hB1, hC1⟩ := hkW.out _ hb1
      have hb01 := hb0h.out.trans (hb1.mono hb0h.out.size)
      have c0 : W1.cell? ⟨w.heap.size, 0, none⟩ = some (.int .i64 L) := by rw [hA1.cell]; rfl
      have c1 : W1.cell? ⟨w.heap.size, 1, none⟩ = some (.slice A n1 c) := by rw [hA1.cell]; rfl
      have c2 := hA1.lt
      have c3 : W1.cell? ⟨w.heap.size + 1 + 1, 0, none⟩ = some (.int .i64 0) := by rw [hC1.cell]; rfl
      have c4 : W1.cell? ⟨w.heap.size + 1 + 1, 1, none⟩ = some (.slice none 0 0) := by rw [hC1.cell]; rfl
      have c5 := hC1.lt
      have c6 := hC1.free 0
      have c7 := hC1.free 1
      have hkl := hide (hkv.out W1 hb01)
      clear hA1 hB1 hC1 a0 a1 a2 a3 a4 a5 q1 q2
      go_wp2_with fail
      refine bodyPost_ret (v := .tuple #[rb L (.slice A n1 c), .int .i64 5]) (by simp [results, Tryz.results21, go_sem, c3, c4]) rfl ?_
      have hbS := (hb01.setCell (p := ⟨w.heap.size + 1 + 1, 0, none⟩) (show w.heap.size ≤ w.heap.size + 1 + 1 by omega) (.int .i64 L)).setCell (p := ⟨w.heap.size + 1 + 1, 1, none⟩) (show w.heap.size ≤ w.heap.size + 1 + 1 by omega) (.slice A n1 c)
      exact rg_same (hkv.out _ hbS) hbS hvbh.out
    · have hF : Hid (pourF L L l r = (putAll l r, 0)) := by show _ = _; unfold pourF; rw [if_neg (by simp), e1.out, e2.out, if_neg hfull]
      rw [hF.out]
      have hs0 := hide (hsum.out (by omega))
      go_enter Tryz.func21, Tryz.ntmps21
      go_wp2_with fail
      rw [← hW0.out]
      refine wp_region_later (by kernel_rfl) (by kernel_rfl) ?_
      repeat (go_big_quiet_step (first
        | (go_at_call 58; (with_reducible exact calls_later (q2.out _)))
        | (go_at_call 58; (with_reducible exact calls_later (q1.out _)))
        | exact rfl))
      refine wpQuiet_nil ?_
      rintro _ ⟨e3, rfl⟩
      have hb1 := e3.property
      generalize e3.val = W1 at *
      obtain ⟨hA1, hB1, hC1⟩ := hkW.out _ hb1
      have hb01 := hb0h.out.trans (hb1.mono hb0h.out.size)
      have c0 : W1.cell? ⟨w.heap.size, 0, none⟩ = some (.int .i64 L) := by rw [hA1.cell]; rfl
      have c1 : W1.cell? ⟨w.heap.size, 1, none⟩ = some (.slice A n1 c) := by rw [hA1.cell]; rfl
      have c2 := hA1.lt
      have c3 : W1.cell? ⟨w.heap.size + 1 + 1, 0, none⟩ = some (.int .i64 0) := by rw [hC1.cell]; rfl
      have c4 : W1.cell? ⟨w.heap.size + 1 + 1, 1, none⟩ = some (.slice none 0 0) := by rw [hC1.cell]; rfl
      have c5 := hC1.lt
      have c6 := hC1.free 0
      have c7 := hC1.free 1
      have hz01 := hb1.size
      have hz0' := hz0.out
      have hz3 : w.heap.size + 3 ≤ W1.heap.size := by omega
      have hstart : Hid (RPourRel w W1.heap.size L L (.slice A n1 c) (.slice B n2 d) r n2 (putAll l r) (.int .i64 0) (W1.alloc (.cells #[.int .i64 L, .slice A n1 c] 53))) :=
        ⟨0, l, _, by omega, rfl, Blk.made _ _ _, hB1.alloc _, hC1.alloc _, hkv.out _ (balloc hb01 _), hoh.out, by rw [en1.out]; omega, by show _ = _; rw [List.drop_zero], by rw [List.drop_zero]; exact hs0.out, balloc hb01 _,
          fun j hj => by have := hvbh.out j hj; exact ⟨by simp; omega, by omega, by omega, .inl hj⟩⟩
      clear hA1 hB1 hC1 a0 a1 a2 a3 a4 a5 q1 q2
      go_wp2_with fail
      obtain ⟨q, hq⟩ : ∃ q, Hid (W1.heap.size = q) := ⟨_, rfl⟩
      rw [hq.out] at hstart
      rw [hq.out]
      have hq2 := hz3
      rw [hq.out] at hq2
      clear c0 c1 c2 c3 c4 c5 c6 c7
      go_loopw [7] (fun kv wr => RPourRel w q L L (.slice A n1 c) (.slice B n2 d) r n2 (putAll l r) kv wr) (fun kv _ => n2 - (intOf kv).toNat)
      case atStart => exact hstart.out
      case round =>
        obtain ⟨i, l', u, hi, rfl, hQ, hB, hC, hu, hok, hlen, hgo, hs, hbel, hf⟩ := hrel
        have b1 : wr.cell? ⟨w.heap.size + 1, 1, none⟩ = some (.slice B n2 d) := by rw [hB.cell]; rfl
        have b2 := hB.lt
        have hnr := hkv2.out wr hbel
        have huh := hide hu
        obtain ⟨Au, cu, rfl, _, _, _, _⟩ := hu
        have d0 : wr.cell? ⟨q, 0, none⟩ = some (.int .i64 L) := by rw [hQ.cell]; rfl
        have d1 : wr.cell? ⟨q, 1, none⟩ = some (.slice Au l'.length cu) := by rw [hQ.cell]; rfl
        have d2 := hQ.lt
        have d3 := hQ.free 0
        have d4 := hQ.free 1
        by_cases hlt : i < n2
        · have hil : i < r.length := by rw [en2.out]; exact hlt
          obtain ⟨Ar, cr, hAr, _, _, _, hrr⟩ := hnr
          obtain ⟨b, off, hbq, hbb, p0, p1⟩ := rd_at hrr hil
          have hBe : B = Ar := by injection hAr
          rw [hbq] at hBe
          subst hBe
          have hp1 := hrp.out r[i] (List.getElem_mem hil)
          have hp2 := hrt.out r[i] (List.getElem_mem hil)
          have hrest := tot_nonneg (r.drop (i + 1)) fun p hp => hrp.out p (List.mem_of_mem_drop hp)
          rw [List.drop_eq_getElem_cons hil, tot] at hs
          rw [List.drop_eq_getElem_cons hil] at hgo
          generalize r[i] = p at *
          obtain ⟨x, y⟩ := p
          simp only at p0 p1 hp1 hp2 hs
          have hgo2 : Hid (putAll (put x y l') (r.drop (i + 1)) = putAll l r) := by show _ = _; rw [← hgo.out, putAll_cons]
          have hput := hide (fun k : Nat => rput_c x y L l' (.slice Au l'.length cu) (wr.drewN k) (huh.out.kept (below_drewN (Below.refl _ _) k)) hok (by omega) ⟨hp1, by omega⟩)
          have hok2 := hide (hok.put x y hp1 (by omega))
          have hln2 := hide (BagM.put_len x y l')
          have htp := hide (tot_put x y l')
          have hsh : Hid (tot l' + (y + tot (r.drop (i + 1))) ≤ 72057594037927935) := hs
          have hlt2 : (i : Int) < (n2 : Int) := by omega
          have hBh := hide hB
          have hCh := hide hC
          have hQh := hide hQ
          have hfh := hide hf
          clear hok hgo hs hB hC hQ hf hrr hAr
          go_wp2_with fail
          refine wp_still_tail 13 (by kernel_rfl) (by kernel_rfl) ?_
          intro V hV
          have g0 : V.cell? ⟨q, 0, none⟩ = some (.int .i64 L) := by rw [hV]; exact d0
          have g1 : V.cell? ⟨q, 1, none⟩ = some (.slice Au l'.length cu) := by rw [hV]; exact d1
          have g2 : q < V.heap.size := by rw [hV]; exact d2
          have g3 : V.cell? ⟨w.heap.size + 1, 1, none⟩ = some (.slice (some ⟨b, off, none⟩) n2 d) := by rw [hV]; exact b1
          have g4 : w.heap.size + 1 < V.heap.size := by rw [hV]; exact b2
          have g5 : V.cell? ⟨b, off + i * 2, none⟩ = some (.int .i64 x) := by rw [hV]; exact p0
          have g6 : V.cell? ⟨b, off + i * 2 + 1, none⟩ = some (.int .i64 y) := by rw [hV]; exact p1
          have g7 : b < V.heap.size := by rw [hV]; exact hbb
          have hputV := hput.out 1
          rw [← hV] at hputV
          replace hputV := hide hputV
          have hbV : Below wr.heap.size wr V := by rw [hV]; exact below_drewN (Below.refl _ _) 1
          have hzV : Hid (V.heap.size = wr.heap.size) := by show _ = _; rw [hV]; rfl
          clear hV hput d0 d1 d2 d3 d4 b1 b2 p0 p1
          simp only [List.take_succ_cons, List.take_zero, List.drop_succ_cons, List.drop_zero]
          repeat still_step
          refine wpStill_nil ?_
          go_wp2_with (go_at_call 59; (with_reducible refine hputV.out.mono ?_); rintro e w5 ⟨u5, rfl, ho5, hb5⟩; have hbw5 := hbV.trans (hb5.mono (by rw [hzV.out]; exact Nat.le_refl _)); obtain ⟨A5, c5, rfl, _, _, _⟩ := own_form ho5; have hQ5 := hQh.out.kept hbw5; have k0 : w5.cell? ⟨q, 0, none⟩ = some (.int .i64 L) := (by rw [hQ5.cell]; rfl); have k1 : w5.cell? ⟨q, 1, none⟩ = some (.slice Au l'.length cu) := (by rw [hQ5.cell]; rfl); have k2 := hQ5.lt; have k3 := hQ5.free 0; have k4 := hQ5.free 1; replace ho5 := hide ho5)
          have hzr := hbel.size
          have hz5 := hbw5.size
          have hzV2 := hzV.out
          have hSt := (Turn.setCell w5 (fun j => j = q) ⟨q, 0, none⟩ (.int .i64 L) rfl).trans (Turn.setCell _ (fun j => j = q) ⟨q, 1, none⟩ (.slice A5 (put x y l').length c5) rfl) fun _ _ h => h
          go_roundw
          case rel =>
            refine ⟨i + 1, put x y l', _, by omega, by go_num, ?_, ((hBh.out.kept hbw5).turned hSt (by omega)), ((hCh.out.kept hbw5).turned hSt (by omega)), (own_nds ho5.out).turned hSt ?_, hok2.out, by have := hln2.out; omega, hgo2, by rw [htp.out]; have := hsh.out; omega, ?_, ?_⟩
            · have := (hQ5.set 0 (.int .i64 L)).set 1 (.slice A5 (put x y l').length c5)
              simpa using this
            · intro j hj e
              have := (ho5.out.lt j hj).1
              omega
            · exact ((hbel.trans (hbw5.mono hzr)).setCell (by simp; omega) _).setCell (by simp; omega) _
            · intro j hj
              have := ho5.out.lt j hj
              refine ⟨by simp; omega, by omega, by omega, .inr (by omega)⟩
          case measure => simp [intOf]; omega
        · have hres : Hid (l' = putAll l r) := by show _ = _; rw [← hgo.out, List.drop_of_length_le (by rw [en2.out]; omega), putAll_nil]
          have e3 : wr.cell? ⟨w.heap.size + 1 + 1, 0, none⟩ = some (.int .i64 0) := by rw [hC.cell]; rfl
          have e4 : wr.cell? ⟨w.heap.size + 1 + 1, 1, none⟩ = some (.slice none 0 0) := by rw [hC.cell]; rfl
          have e5 := hC.lt
          have e6 := hC.free 0
          have e7 := hC.free 1
          have hfh := hide hf
          clear hQ hB hC hok hgo hs hf hnr
          go_wp2_with fail
          refine bodyPost_ret (v := .tuple #[rb L (.slice Au l'.length cu), .int .i64 0]) (by simp [results, Tryz.results21, go_sem, e3, e4]) rfl ?_
          have hSt := (Turn.setCell wr (fun j => j = w.heap.size + 1 + 1) ⟨w.heap.size + 1 + 1, 0, none⟩ (.int .i64 L) rfl).trans (Turn.setCell _ (fun j => j = w.heap.size + 1 + 1) ⟨w.heap.size + 1 + 1, 1, none⟩ (.slice Au l'.length cu) rfl) fun _ _ h => h
          refine ⟨_, rfl, ?_, (hbel.setCell (show w.heap.size ≤ w.heap.size + 1 + 1 by omega) _).setCell (show w.heap.size ≤ w.heap.size + 1 + 1 by omega) _, fun j hj => ?_⟩
          · rw [← hres.out]
            exact huh.out.turned hSt fun j hj e => (hfh.out j hj).2.2.1 e
          · have := hfh.out j hj
            exact ⟨by simp; exact this.1, this.2.2.2⟩
  · have hF : Hid (pourF L M l r = (l, 6)) := if_pos hLM
    rw [hF.out]
    have hne : (L != M) = true := by simpa using hLM
    clear ho hr hLM hvb hT1 hT2
    go_enter Tryz.func21, Tryz.ntmps21
    go_wp2_with fail
    refine bodyPost_ret (v := .tuple #[rb L (.slice A n1 c), .int .i64 6]) (by simp [results, Tryz.results21, go_sem]) rfl ?_
    exact rg_same (hkv.out _ (balloc (balloc (balloc0 _ _) _) _)) (balloc (balloc (balloc0 _ _) _) _) hvbh.out
end BG
end Go.Proofs.YteebghoijaaakaaGreat

/- Part 45 of the proof: texts joined by this repo's tools/merge2.py (Hop7y TopC TopD TopE). By the prover of this repo. -/
import Derived.Test.YteebghoijaaakaaGreatM38
import Derived.Test.YteebghoijaaakaaGreatM25
import Derived.Test.YteebghoijaaakaaGreatM21
import Derived.Test.YteebghoijaaakaaGreatM26
import Derived.Test.YteebghoijaaakaaGreatM44
set_option linter.unusedVariables false
set_option linter.unusedSimpArgs false
/- The walk of crowd.hop: Lower. By the prover of this repo. -/
namespace Go.Proofs.YteebghoijaaakaaGreat
namespace CW
open Go.RowKit
open TwigM RollM StoM TopM

set_option maxRecDepth 100000 in
set_option maxHeartbeats 4000000 in
theorem hop_lowy (c gd gb n cd cb : Nat) (L : Int) (D : Nat → Int) (s : Nat → DS) (d p : Nat → Nat) (v : Nat → Value) (Fs : Nat → Nat → Prop) (w : World) (hX : CrowdX w c gd gb n cd cb L D s d p v Fs) (hL1 : 1 ≤ L) (hL : L ≤ 10) (hn1 : 1 ≤ n) (hn5 : n ≤ 5) (hf : ∀ j, j < n → Fit L (s j)) (hkd : ∀ j, j < n → Kd (D j))
    (on oth x m : Int) (hon : -9223372036854775808 ≤ on ∧ on ≤ 9223372036854775807) (hoth : -9223372036854775808 ≤ oth ∧ oth ≤ 9223372036854775807) (hx : -9223372036854775808 ≤ x ∧ x ≤ 9223372036854775807) (hm : -9223372036854775808 ≤ m ∧ m ≤ 9223372036854775807)
    (i k : Nat) (hi : i < n) (hk : k < n) (hai : atF on n = i) (hak : atF oth n = k) (hx1 : 1 ≤ x) (hx2 : x ≤ (s i).1) :
    Calls Tryz.prog 7 #[.pointer (some ⟨c, 0, none⟩), .agg #[.int .i64 7, .int .i64 on, .int .i64 oth, .int .i64 x, .int .i64 m]] w
      (HopOut w c gd gb n cd cb L d p v Fs D (up s i (TopM.oneF L (s i) (s k) (7, on, oth, x, m)))) := by
  have hA1 := hide (fun (e : Later (w.alloc (.cells #[.int .i64 7, .int .i64 on, .int .i64 oth, .int .i64 x, .int .i64 m] 30)).heap.size (w.alloc (.cells #[.int .i64 7, .int .i64 on, .int .i64 oth, .int .i64 x, .int .i64 m] 30))) => at_c on n e.val (by omega) (by omega) hon.1 hon.2)
  have hA2 := hide (fun (e : Later (w.alloc (.cells #[.int .i64 7, .int .i64 on, .int .i64 oth, .int .i64 x, .int .i64 m] 30)).heap.size (w.alloc (.cells #[.int .i64 7, .int .i64 on, .int .i64 oth, .int .i64 x, .int .i64 m] 30))) => at_c oth n e.val (by omega) (by omega) hoth.1 hoth.2)
  rw [hai] at hA1
  rw [hak] at hA2
  obtain ⟨hb, hhb⟩ : ∃ hb, w.heap.size = hb := ⟨_, rfl⟩
  have hX0 := hide (hX.kept (balloc0 w (.cells #[.int .i64 7, .int .i64 on, .int .i64 oth, .int .i64 x, .int .i64 m] 30)))
  have hH0 := hide ((Hp.start w c gd gb n d p v Fs).below (balloc0 w (.cells #[.int .i64 7, .int .i64 on, .int .i64 oth, .int .i64 x, .int .i64 m] 30)))
  have hB0 := Blk.made w 30 #[.int .i64 7, .int .i64 on, .int .i64 oth, .int .i64 x, .int .i64 m]
  rw [hhb] at hB0
  have hz0 : hb < (w.alloc (.cells #[.int .i64 7, .int .i64 on, .int .i64 oth, .int .i64 x, .int .i64 m] 30)).heap.size := hB0.lt
  have hB0 := hide hB0
  clear hX
  go_enter Tryz.func7, Tryz.ntmps7
  go_wp2_with fail

  generalize (w.alloc (.cells #[.int .i64 7, .int .i64 on, .int .i64 oth, .int .i64 x, .int .i64 m] 30)) = W0 at *
  obtain ⟨a0, -, a1, a2, a3, a4, -, -, -, -, -⟩ := hX0.out.cells hi
  have a5 : W0.cell? ⟨hb, 1, none⟩ = some (.int .i64 on) := hB0.out.cell 1
  have a6 : W0.cell? ⟨hb, 2, none⟩ = some (.int .i64 oth) := hB0.out.cell 2
  refine wp_region_later (by kernel_rfl) (by kernel_rfl) ?_
  repeat (go_big_quiet_step (first
    | (go_at_call 8; (with_reducible exact calls_later_same (hA1.out _)))
    | (go_at_call 8; (with_reducible exact calls_later_same (hA2.out _)))
    | exact rfl))
  refine wpQuiet_nil ?_
  rintro _ ⟨e1, rfl⟩
  have hX1 := hide (hX0.out.kept e1.property)
  have hH1 := hide (hH0.out.below e1.property)
  have hB1 := hide (hB0.out.kept e1.property)
  have hz1 : hb < e1.val.heap.size := by have := e1.property.size; omega
  have hzw : w.heap.size ≤ hb := by omega
  generalize e1.val = W1 at *
  clear e1 a0 a1 a2 a3 a4 a5 a6 hX0 hH0 hB0 hA1 hA2 hz0 hhb hai hak
  obtain ⟨a0, a1, a2, a3, a4, a5, a6, a7, -, -, -⟩ := hX1.out.cells hi
  have b0 : W1.cell? ⟨hb, 0, none⟩ = some (.int .i64 7) := hB1.out.cell 0
  have b3 : W1.cell? ⟨hb, 3, none⟩ = some (.int .i64 x) := hB1.out.cell 3
  have b4 : W1.cell? ⟨hb, 4, none⟩ = some (.int .i64 m) := hB1.out.cell 4
  have hdi := hX1.out.dig i hi
  have hfi := hf i hi
  have hfl := hfi.lower hL1 hL hx1 hx2
  have hC := hide (lower_yes (d i) (p i) (s i).1 (D i) L x (s i).2.1 (Fs i) W1 hdi hx1 hx2 (hfi.meas hL1 hL) (hfl.wf hL) (by have := hfl.len; simp only at this; omega) (hfl.load hL1 hL (hkd i hi)))
  have hone : Hid (TopM.oneF L (s i) (s k) (7, on, oth, x, m) = (x, ((pressF L x (s i).2.1).1, (s i).2.2))) := by show _ = _; unfold TopM.oneF; simp only []; rw [if_neg (by omega), if_neg (by omega), if_neg (by omega), if_pos trivial, if_neg (by omega)]
  have hbd := hide (hX1.out.bnd (Nat.le_refl _))
  have hzW : w.heap.size ≤ W1.heap.size := by omega
  generalize hpr : (pressF L x (s i).2.1).1 = l' at *
  clear hpr hfl hfi hdi b4 hf hkd
  go_wp2_with fail
  refine Calls.mono hC.out ?_
  rintro e w2 ⟨d', p', F', rfl, h1, h2, h3, h4, h5⟩
  have hX2 := hide (hX1.out.kept h5)
  have hH2 := hide (hH1.out.below h5)
  have hcc := hX2.out.cells hi
  have h1 := hide h1
  have h4 := hide h4
  have h5 := hide h5
  clear hC a0 a1 a2 a3 a4 a5 a6 a7 b0 b3 hX1 hH1 hB1 hz1
  obtain ⟨c0, -, c1, c2, -, c3, -, -, c4, -, -⟩ := hcc
  have hX3 := hide (hX2.out.putD hi hbd.out h1.out h2 h3 h4.out)
  have hH3 := hide (hH2.out.putD (i := i) (d' := d') (p' := p') (F' := F') (.pointer (some ⟨d', 0, none⟩)) (Nat.le_trans hzW h2) (Nat.le_trans hzW h3) fun j hj => Nat.le_trans hzW (h4.out j hj))
  rw [up_self] at hX3
  go_wp2_with fail
  go_ret
  refine ⟨rfl, _, _, _, _, ?_, hH3.out⟩
  rw [hone.out]
  exact hX3.out
end CW
end Go.Proofs.YteebghoijaaakaaGreat
/- The law TopShapes: its walk, but for what is alive. By the prover of this repo. -/
namespace Go.Proofs.YteebghoijaaakaaGreat
open Go.RowKit
open TwigM RollM StoM TopM

/-- What a round of the law holds. -/
structure ShAt (w wr : World) (B d p : Nat) (K kd L : Int) (l b : List Nd) (v : Value) (F : Nat → Prop) : Prop where
  dig : DigAt wr d p K kd L l F
  box : Blk wr B 53 #[.int .i64 L, v]
  nds : Nds wr v b
  inv : Inv K L l b 80
  bel : Below w.heap.size w wr
  low : w.heap.size ≤ B ∧ w.heap.size ≤ d ∧ w.heap.size ≤ p ∧ ∀ j, F j → w.heap.size ≤ j
  sep : ∀ j, v.ownBlock = some j → j < wr.heap.size ∧ ¬ F j ∧ j ≠ B
  ndB : d ≠ B ∧ p ≠ B ∧ ¬ F B
section
variable {w wr w3 w4 : World} {B d p d' p' : Nat} {K kd L L' : Int} {l b l' b' : List Nd} {v v' : Value} {F F' : Nat → Prop}
theorem ShAt.same (s : ShAt w wr B d p K kd L l b v F) (hb : Below wr.heap.size wr w3) : ShAt w w3 B d p K kd L l b v F :=
  ⟨s.dig.kept hb, s.box.kept hb, s.nds.kept hb, s.inv, s.bel.trans (hb.mono s.bel.size), s.low, fun j hj => by have := s.sep j hj; have := hb.size; exact ⟨by omega, (s.sep j hj).2⟩, s.ndB⟩
theorem ShAt.swap (s : ShAt w wr B d p K kd L l b v F) (hb : Below wr.heap.size wr w3) (h1 : DigAt w3 d' p' K kd L' l' F') (h2 : wr.heap.size ≤ d' ∧ wr.heap.size ≤ p' ∧ ∀ j, F' j → wr.heap.size ≤ j)
    (hn : Nds w3 v' b') (hv : ∀ j, v'.ownBlock = some j → j < w3.heap.size ∧ ¬ F' j ∧ j ≠ B) (hi : Inv K L' l' b' 80) (t : Turn (fun j => j = B) w3 w4) (hx : Blk w4 B 53 #[.int .i64 L', v']) : ShAt w w4 B d' p' K kd L' l' b' v' F' := by
  have hz := s.bel.size
  have hB := s.box.lt
  have ht := t.size
  have hl := s.low
  refine ⟨h1.off t (by omega) (by omega) fun j hj => by have := h2.2.2 j hj; omega, hx, hn.turned t fun j hj => (hv j hj).2.2, hi, (s.bel.trans (hb.mono hz)).trans (t.below w.heap.size (by have := hb.size; omega) fun j hj => by omega), ⟨hl.1, by omega, by omega, fun j hj => by have := h2.2.2 j hj; omega⟩, fun j hj => by have := hv j hj; exact ⟨by omega, this.2⟩, by omega, by omega, fun k => by have := h2.2.2 B k; omega⟩
end
def side (L K kd : Int) (A : Option Addr) (n c : Nat) : Value := .agg #[.int .i64 L, .int .i64 K, .int .i64 kd, .slice A n c]
abbrev four (a b c d : Int) : Value := .agg #[.int .i64 a, .int .i64 b, .int .i64 c, .int .i64 d]
end Go.Proofs.YteebghoijaaakaaGreat
/- The law TopShapes: its walk, but for what is alive; ways that end early. By the prover of this repo. -/
namespace Go.Proofs.YteebghoijaaakaaGreat
open Go.RowKit
open TwigM RollM StoM TopM

end Go.Proofs.YteebghoijaaakaaGreat
/- The law's example: a digest is made, asked, told. By the prover of this repo. -/
namespace Go.Proofs.YteebghoijaaakaaGreat
open Go.RowKit
open TwigM RollM StoM

theorem ins_one : insF 3 2 5 2 [] = [(13, 2)] := by
  unfold insF roomF
  rw [if_neg (by simp)]
  rfl
theorem dig1 {n : Nat} (h : n < 10) : digS (n : Int) = ⟨#[dg n]⟩ := by
  unfold digS
  rw [if_neg (by omega), Int.toNat_natCast, digF_small h]
theorem text_one : (⟨(textL 3 2 [(13, 2)]).toArray⟩ : ByteArray) = ⟨#[100, 105, 103, 101, 115, 116, 32, 51, 32, 50, 32, 50, 10, 53, 46, 46, 53, 32, 50, 10]⟩ := by
  have hlg : lg 13 = 3 := lg_unique (by omega) (by decide) (by decide)
  have hlo : loF 3 13 = 5 := by unfold loF; rw [hlg]; decide
  have d2 : digS 2 = ⟨#[50]⟩ := (dig1 (n := 2) (by omega)).trans rfl
  have d3 : digS 3 = ⟨#[51]⟩ := (dig1 (n := 3) (by omega)).trans rfl
  have d5 : digS 5 = ⟨#[53]⟩ := (dig1 (n := 5) (by omega)).trans rfl
  have hs : sumL [((13 : Int), (2 : Int))] = 2 := rfl
  unfold textL headW linesL lineW linesL
  simp only [hlo, hlg]
  rw [hs, show pw (3 - 3) = 1 from rfl, show (5 : Int) + 1 - 1 = 5 from rfl, d2, d3, d5]
  rfl
theorem enc_one : 4 < (SealM.sealed (rawS 3 2 [(13, 2)])).size := by
  rw [sealed_size]
  unfold rawS
  rw [ByteArray.size_append, ByteArray.size_append, ByteArray.size_append, ByteArray.size_append]
  show 4 < 4 + 1 + _ + _ + _ + 4
  omega
set_option maxRecDepth 100000 in
set_option maxHeartbeats 1000000 in
theorem top_alive (w : World) : Calls Tryz.prog 5 #[] w fun e w' => e = .returned (.bool true) ∧ Below w.heap.size w w' := by
  have hN := hide (digest_new 3 2 2 w (by decide))
  have hI := hide (fun (d p : Nat) (F : Nat → Prop) (W : World) (h : DigAt W d p 2 2 3 [] F) => digest_insert d p 2 2 3 5 2 [] F W h (by omega) (by decide) (by omega) (by decide) (by decide) (by simp))
  rw [ins_one] at hI
  have hE := hide (fun (d p : Nat) (F : Nat → Prop) (W : World) (h : DigAt W d p 2 2 3 [(13, 2)] F) => wire_encode d p 2 2 3 [(13, 2)] F W h (by simp))
  have hT := hide (fun (d p : Nat) (F : Nat → Prop) (W : World) (h : DigAt W d p 2 2 3 [(13, 2)] F) => sheet_text d p 2 2 3 [(13, 2)] F W h)
  rw [text_one] at hT
  have hM := hide (fun (d p : Nat) (F : Nat → Prop) (W : World) (h : DigAt W d p 2 2 3 [(13, 2)] F) => med_c h)
  have hz := enc_one
  generalize SealM.sealed (rawS 3 2 [(13, 2)]) = Z at *
  unfold conf at hN
  go_enter Tryz.func5, Tryz.ntmps5
  go_wp2_with fail
  refine Calls.mono hN.out ?_
  rintro e w1 ⟨d, p, F, rfl, h1, h2, h3, h4, hb1⟩
  have h1 := hide h1
  have h4 := hide h4
  have hb1 := hide hb1
  go_wp2_with fail
  refine Calls.mono (hI.out d p F w1 h1.out) ?_
  rintro e w2 ⟨rfl, F2, k1, k2, k3⟩
  have hb2 := hide (hb1.out.trans (k2.below _ hb1.out.size fun j hj k => by have := h4.out j k; omega))
  have k1 := hide k1
  clear k2 k3
  go_wp2_with fail
  refine Calls.mono (hE.out d p F2 w2 k1.out) ?_
  rintro e w3 ⟨rfl, hb3⟩
  have k3 := hide (k1.out.kept hb3)
  have hb3 := hide (hb2.out.trans (hb3.mono hb2.out.size))
  go_wp2_with fail
  refine Calls.mono (hT.out d p F2 w3 k3.out) ?_
  rintro e w4 ⟨rfl, hb4⟩
  have k4 := hide (k3.out.kept hb4)
  have hb4 := hide (hb3.out.trans (hb4.mono hb3.out.size))
  go_wp2_with fail
  refine Calls.mono (hM.out d p F2 w4 k4.out) ?_
  rintro e w5 ⟨rfl, hb5⟩
  have hb5 := hide (hb4.out.trans (hb5.mono hb4.out.size))
  have hz2 : (4 : Int) < (Z.size : Int) := by omega
  go_wp2_with fail
  go_ret
  exact ⟨rfl, hb5.out⟩
end Go.Proofs.YteebghoijaaakaaGreat

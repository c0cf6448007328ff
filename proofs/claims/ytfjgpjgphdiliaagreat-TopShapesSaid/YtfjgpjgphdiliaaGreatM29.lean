/- Part 29 of the proof: texts joined by this repo's tools/merge.py (TopE TopF). By the prover of this repo. -/
import Derived.Test.YtfjgpjgphdiliaaGreatM24
import Derived.Test.YtfjgpjgphdiliaaGreatM25
import Derived.Test.YtfjgpjgphdiliaaGreatM28
set_option linter.unusedVariables false
set_option linter.unusedSimpArgs false
/- The law's example: a digest is made, asked, told. By the prover of this repo. -/
namespace Go.Proofs.YtfjgpjgphdiliaaGreat
open Go.RowKit
open TwigM RollM StoM

theorem ins_one : insF 3 2 5 2 [] = [(13, 2)] := by
  unfold insF roomF
  rw [if_neg (by simp)]
  rfl
theorem dig1 {n : Nat} (h : n < 10) : digS (n : Int) = ⟨#[dg n]⟩ := by
  unfold digS
  rw [if_neg (by omega), Int.toNat_natCast, digF_small h]
theorem text_one : (⟨(textL 3 2 [(13, 2)]).toArray⟩ : ByteArray) = ⟨#[100, 105, 103, 101, 115, 116, 32, 51, 32, 50, 32, 50, 10, 53, 46, 46, 53, 32, 50, 10]⟩ := by
  have hlg : lg 13 = 3 := lg_unique (by omega) (by decide) (by decide)
  have hlo : loF 3 13 = 5 := by unfold loF; rw [hlg]; decide
  have d2 : digS 2 = ⟨#[50]⟩ := (dig1 (n := 2) (by omega)).trans rfl
  have d3 : digS 3 = ⟨#[51]⟩ := (dig1 (n := 3) (by omega)).trans rfl
  have d5 : digS 5 = ⟨#[53]⟩ := (dig1 (n := 5) (by omega)).trans rfl
  have hs : sumL [((13 : Int), (2 : Int))] = 2 := rfl
  unfold textL headW linesL lineW linesL
  simp only [hlo, hlg]
  rw [hs, show pw (3 - 3) = 1 from rfl, show (5 : Int) + 1 - 1 = 5 from rfl, d2, d3, d5]
  rfl
theorem enc_one : 4 < (SealM.sealed (rawS 3 2 [(13, 2)])).size := by
  rw [sealed_size]
  unfold rawS
  rw [ByteArray.size_append, ByteArray.size_append, ByteArray.size_append, ByteArray.size_append]
  show 4 < 4 + 1 + _ + _ + _ + 4
  omega
set_option maxRecDepth 100000 in
set_option maxHeartbeats 1000000 in
theorem top_alive (w : World) : Calls Tryz.prog 4 #[] w fun e w' => e = .returned (.bool true) ∧ Below w.heap.size w w' := by
  have hN := hide (digest_new 3 2 2 w (by decide))
  have hI := hide (fun (d p : Nat) (F : Nat → Prop) (W : World) (h : DigAt W d p 2 2 3 [] F) => digest_insert d p 2 2 3 5 2 [] F W h (by omega) (by decide) (by omega) (by decide) (by decide) (by simp))
  rw [ins_one] at hI
  have hE := hide (fun (d p : Nat) (F : Nat → Prop) (W : World) (h : DigAt W d p 2 2 3 [(13, 2)] F) => wire_encode d p 2 2 3 [(13, 2)] F W h (by simp))
  have hT := hide (fun (d p : Nat) (F : Nat → Prop) (W : World) (h : DigAt W d p 2 2 3 [(13, 2)] F) => sheet_text d p 2 2 3 [(13, 2)] F W h)
  rw [text_one] at hT
  have hM := hide (fun (d p : Nat) (F : Nat → Prop) (W : World) (h : DigAt W d p 2 2 3 [(13, 2)] F) => med_c h)
  have hz := enc_one
  generalize SealM.sealed (rawS 3 2 [(13, 2)]) = Z at *
  unfold conf at hN
  go_enter Tryz.func4, Tryz.ntmps4
  go_wp2_with fail
  refine Calls.mono hN.out ?_
  rintro e w1 ⟨d, p, F, rfl, h1, h2, h3, h4, hb1⟩
  have h1 := hide h1
  have h4 := hide h4
  have hb1 := hide hb1
  go_wp2_with fail
  refine Calls.mono (hI.out d p F w1 h1.out) ?_
  rintro e w2 ⟨rfl, F2, k1, k2, k3⟩
  have hb2 := hide (hb1.out.trans (k2.below _ hb1.out.size fun j hj k => by have := h4.out j k; omega))
  have k1 := hide k1
  clear k2 k3
  go_wp2_with fail
  refine Calls.mono (hE.out d p F2 w2 k1.out) ?_
  rintro e w3 ⟨rfl, hb3⟩
  have k3 := hide (k1.out.kept hb3)
  have hb3 := hide (hb2.out.trans (hb3.mono hb2.out.size))
  go_wp2_with fail
  refine Calls.mono (hT.out d p F2 w3 k3.out) ?_
  rintro e w4 ⟨rfl, hb4⟩
  have k4 := hide (k3.out.kept hb4)
  have hb4 := hide (hb3.out.trans (hb4.mono hb3.out.size))
  go_wp2_with fail
  refine Calls.mono (hM.out d p F2 w4 k4.out) ?_
  rintro e w5 ⟨rfl, hb5⟩
  have hb5 := hide (hb4.out.trans (hb5.mono hb4.out.size))
  have hz2 : (4 : Int) < (Z.size : Int) := by omega
  go_wp2_with fail
  go_ret
  exact ⟨rfl, hb5.out⟩
end Go.Proofs.YtfjgpjgphdiliaaGreat
/- The law TopShapes: its walk. By the prover of this repo. -/
namespace Go.Proofs.YtfjgpjgphdiliaaGreat
open Go.RowKit

/-- For any digest that is made, any calls, any four steps, any calls more, and any number: the law returns true. -/
theorem topShapes_walk (L K kd : Int) (a : Option Addr) (c : Nat) (l : List TopM.Op) (s0 s1 s2 s3 : Int) (a2 : Option Addr) (c2 : Nat) (l2 : List TopM.Op) (y : Int) (w : World)
    (hr : Rd w a l.length 3 (opc l)) (hwf : OpWf l)
    (hs0 : -9223372036854775808 ≤ s0 ∧ s0 ≤ 9223372036854775807) (hs1 : -9223372036854775808 ≤ s1 ∧ s1 ≤ 9223372036854775807) (hs2 : -9223372036854775808 ≤ s2 ∧ s2 ≤ 9223372036854775807) (hs3 : -9223372036854775808 ≤ s3 ∧ s3 ≤ 9223372036854775807)
    (hr2 : Rd w a2 l2.length 3 (opc l2)) (hwf2 : OpWf l2) (_hy : -9223372036854775808 ≤ y ∧ y ≤ 9223372036854775807) :
    Calls Tryz.prog 3 #[.agg #[.int .i64 L, .int .i64 K, .int .i64 kd, .slice a l.length c], .agg #[.int .i64 s0, .int .i64 s1, .int .i64 s2, .int .i64 s3], .slice a2 l2.length c2, .int .i64 y] w fun e w' => e = .returned (.bool true) ∧ Below w.heap.size w w' :=
  shapes_c top_alive L K kd a a2 c c2 l l2 s0 s1 s2 s3 y w hr hr2 hwf hwf2 hs0 hs1 hs2 hs3
end Go.Proofs.YtfjgpjgphdiliaaGreat

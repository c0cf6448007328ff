/- The walks of layer 29, on: a letter's bytes, and the reference's. By the prover of this repo. -/
import Derived.Test.YtclndbaafibaiaaLetterW
import Derived.Test.YtclndbaafibaiaaVaryP
import Derived.Test.YtclndbaafibaiaaSealW
namespace Go.Proofs.Ytclndbaafibaiaa
open Go.RowKit
open VaryM SealM

/-- The numbers of a letter, as Put is handed them. -/
def nums (x : Let) (i : Nat) : Int := ([x.ep, x.fr, x.co, (x.body.size : Int)] : List Int).getD i 0
/-- A letter's bytes, unsealed. -/
def plainF (x : Let) : ByteArray := (⟨#[68, 87, 76, 1]⟩ : ByteArray) ++ encsStr (nums x) 4 ++ x.body
/-- A letter's bytes, and whether it is right. -/
def encodeF (x : Let) : ByteArray × Int := if rightF x = true then (sealed (plainF x), 0) else (⟨#[]⟩, 2)

theorem right_parts {x : Let} (h : rightF x = true) : 0 ≤ x.ep ∧ 0 ≤ x.fr ∧ x.fr < 48 ∧ x.co < 281474976710656 ∧ x.body.size ≤ 1048576 := by
  unfold rightF hasF at h
  simp only [Bool.and_eq_true, decide_eq_true_eq] at h
  omega

theorem plain_size (x : Let) (hx : x.ep ≤ 9223372036854775807 ∧ x.fr ≤ 9223372036854775807 ∧ x.co ≤ 9223372036854775807 ∧ x.body.size ≤ 1048576) : (plainF x).size ≤ 1048616 := by
  have h := encs_len (f := nums x) 4 (by intro i hi; rcases (show i = 0 ∨ i = 1 ∨ i = 2 ∨ i = 3 by omega) with rfl | rfl | rfl | rfl <;> simp [nums] <;> omega)
  unfold plainF
  rw [ByteArray.size_append, ByteArray.size_append, encsStr_size]
  have : (⟨#[68, 87, 76, 1]⟩ : ByteArray).size = 4 := rfl
  omega

set_option maxRecDepth 100000 in
set_option maxHeartbeats 400000 in
theorem letter_encode_yes (x : Let) (h : x.Wf) (w : World) (hr : rightF x = true) : Calls Try.prog 42 #[lv x] w fun e w' => e = .returned (.tuple #[.string (sealed (plainF x)), .int .i64 0]) ∧ Below w.heap.size w w' := by
  have hR := fun W => letter_right x h W
  rw [hr] at hR
  have hp := right_parts hr
  have hps := plain_size x ⟨h.e1, by omega, by omega, by omega⟩
  have hput := putF_all (f := nums x) (n := 4) (by intro i hi; rcases (show i = 0 ∨ i = 1 ∨ i = 2 ∨ i = 3 by omega) with rfl | rfl | rfl | rfl <;> simp [nums] <;> (have := h.c0; omega))
  have hle : ∀ i, i < 4 → nums x i ≤ 9223372036854775807 := by intro i hi; have := h.e1; rcases (show i = 0 ∨ i = 1 ∨ i = 2 ∨ i = 3 by omega) with rfl | rfl | rfl | rfl <;> simp [nums] <;> omega
  obtain ⟨ep, fr, co, body⟩ := x
  obtain ⟨h1, h2, h3, h4, h5, h6, h7⟩ := h
  simp only at h1 h2 h3 h4 h5 h6 h7 hp
  have hS := fun W => seal_seal (plainF ⟨ep, fr, co, body⟩) W (by omega)
  generalize hF : nums ⟨ep, fr, co, body⟩ = F at hput hle
  have f0 : ep = F 0 := by rw [← hF]; rfl
  have f1 : fr = F 1 := by rw [← hF]; rfl
  have f2 : co = F 2 := by rw [← hF]; rfl
  have f3 : (body.size : Int) = F 3 := by rw [← hF]; rfl
  have hpl : plainF ⟨ep, fr, co, body⟩ = (⟨#[68, 87, 76, 1]⟩ : ByteArray) ++ encsStr F 4 ++ body := by unfold plainF; rw [hF]
  generalize sealed (plainF ⟨ep, fr, co, body⟩) = SS at hS
  rw [hpl] at hS hps
  have hP := fun W : World => vary_put (some ⟨W.heap.size, 0, none⟩) 4 4 F (W.alloc (.cells #[.int .i64 ep, .int .i64 fr, .int .i64 co, .int .i64 (body.size : Int)] 3))
    (Rd.of_blk (Blk.made _ _ _) 0 (by simp) (by intro i hi; rcases (show i = 0 ∨ i = 1 ∨ i = 2 ∨ i = 3 by omega) with rfl | rfl | rfl | rfl <;> simp [f0, f1, f2, f3])) (by omega) hle
  rw [hput] at hP
  have hes := encsStr_size F 4
  generalize encsStr F 4 = T at hP hS hps hes
  clear hput hle hpl hF f0 f1 f2 f3 hes
  replace hP := hide hP
  replace hS := hide hS
  replace hR := hide hR
  simp only [ByteArray.size_append] at hps
  have hT : T.size ≤ 1048616 := by omega
  clear hps
  go_enter Try.func42, Try.ntmps42
  go_wp2_with fail
  refine (hR.out _).mono ?_
  rintro e w1 ⟨rfl, hb1⟩
  have hbl := (Blk.made w 68 #[.int .i64 ep, .int .i64 fr, .int .u64 co, .string body]).kept hb1
  have c0 := hbl.cell 0
  have c1 := hbl.cell 1
  have c2 := hbl.cell 2
  have c3 := hbl.cell 3
  simp only [List.getElem?_toArray, List.getElem?_cons_zero, List.getElem?_cons_succ] at c0 c1 c2 c3
  go_wp2_with fail
  refine (hP.out _).mono ?_
  rintro e w2 ⟨rfl, hb2⟩
  have hbl2 := (hbl.alloc (.cells #[.int .i64 ep, .int .i64 fr, .int .i64 co, .int .i64 (body.size : Int)] 3)).kept hb2
  have d3 := hbl2.cell 3
  simp only [List.getElem?_toArray, List.getElem?_cons_zero, List.getElem?_cons_succ] at d3
  go_wp2_with fail
  refine (hS.out _).mono ?_
  rintro e w3 ⟨rfl, hb3⟩
  go_wp2_with fail
  go_ret2
  exact ⟨rfl, bthen (bthen (balloc (bthen (balloc0 _ _) hb1) _) hb2) hb3⟩

theorem letter_encode (x : Let) (h : x.Wf) (w : World) : Calls Try.prog 42 #[lv x] w fun e w' => e = .returned (.tuple #[.string (encodeF x).1, .int .i64 (encodeF x).2]) ∧ Below w.heap.size w w' := by
  unfold encodeF
  by_cases hr : rightF x = true
  · rw [if_pos hr]; exact letter_encode_yes x h w hr
  · rw [if_neg hr]
    have hR := fun W => letter_right x h W
    rw [show rightF x = false by simpa using hr] at hR
    obtain ⟨ep, fr, co, body⟩ := x
    replace hR := hide hR
    go_enter Try.func42, Try.ntmps42
    go_wp2_with fail
    refine (hR.out _).mono ?_
    rintro e w1 ⟨rfl, hb1⟩
    go_wp2_with fail
    go_ret2
    exact ⟨rfl, bthen (balloc0 _ _) hb1⟩
end Go.Proofs.Ytclndbaafibaiaa

/- Part 19 of the proof: texts joined by this repo's tools/merge2.py (LetterE LetterF LetterC LetterD). By the prover of this repo. -/
import Derived.Test.YteebghoijaaakaaGreatM2
import Derived.Test.YteebghoijaaakaaGreatM16
import Derived.Test.YteebghoijaaakaaGreatM18
import Derived.Test.YteebghoijaaakaaGreatM8
set_option linter.unusedVariables false
set_option linter.unusedSimpArgs false
/- The walks of layer 29, on: a letter's bytes, and the reference's. By the prover of this repo. -/
namespace Go.Proofs.YteebghoijaaakaaGreat
open Go.RowKit
open VaryM SealM

/-- The numbers of a letter, as Put is handed them. -/
def nums (x : Let) (i : Nat) : Int := ([x.ep, x.fr, x.co, (x.body.size : Int)] : List Int).getD i 0
/-- A letter's bytes, unsealed. -/
def plainF (x : Let) : ByteArray := (⟨#[68, 87, 76, 1]⟩ : ByteArray) ++ encsStr (nums x) 4 ++ x.body
/-- A letter's bytes, and whether it is right. -/
def encodeF (x : Let) : ByteArray × Int := if rightF x = true then (sealed (plainF x), 0) else (⟨#[]⟩, 2)

theorem right_parts {x : Let} (h : rightF x = true) : 0 ≤ x.ep ∧ 0 ≤ x.fr ∧ x.fr < 48 ∧ x.co < 281474976710656 ∧ x.body.size ≤ 1048576 := by
  unfold rightF hasF at h
  simp only [Bool.and_eq_true, decide_eq_true_eq] at h
  omega

theorem plain_size (x : Let) (hx : x.ep ≤ 9223372036854775807 ∧ x.fr ≤ 9223372036854775807 ∧ x.co ≤ 9223372036854775807 ∧ x.body.size ≤ 1048576) : (plainF x).size ≤ 1048616 := by
  have h := encs_len (f := nums x) 4 (by intro i hi; rcases (show i = 0 ∨ i = 1 ∨ i = 2 ∨ i = 3 by omega) with rfl | rfl | rfl | rfl <;> simp [nums] <;> omega)
  unfold plainF
  rw [ByteArray.size_append, ByteArray.size_append, encsStr_size]
  have : (⟨#[68, 87, 76, 1]⟩ : ByteArray).size = 4 := rfl
  omega

set_option maxRecDepth 100000 in
set_option maxHeartbeats 400000 in
theorem letter_encode_yes (x : Let) (h : x.Wf) (w : World) (hr : rightF x = true) : Calls Tryz.prog 63 #[lv x] w fun e w' => e = .returned (.tuple #[.string (sealed (plainF x)), .int .i64 0]) ∧ Below w.heap.size w w' := by
  have hR := fun W => letter_right x h W
  rw [hr] at hR
  have hp := right_parts hr
  have hps := plain_size x ⟨h.e1, by omega, by omega, by omega⟩
  have hput := putF_all (f := nums x) (n := 4) (by intro i hi; rcases (show i = 0 ∨ i = 1 ∨ i = 2 ∨ i = 3 by omega) with rfl | rfl | rfl | rfl <;> simp [nums] <;> (have := h.c0; omega))
  have hle : ∀ i, i < 4 → nums x i ≤ 9223372036854775807 := by intro i hi; have := h.e1; rcases (show i = 0 ∨ i = 1 ∨ i = 2 ∨ i = 3 by omega) with rfl | rfl | rfl | rfl <;> simp [nums] <;> omega
  obtain ⟨ep, fr, co, body⟩ := x
  obtain ⟨h1, h2, h3, h4, h5, h6, h7⟩ := h
  simp only at h1 h2 h3 h4 h5 h6 h7 hp
  have hS := fun W => seal_seal (plainF ⟨ep, fr, co, body⟩) W (by omega)
  generalize hF : nums ⟨ep, fr, co, body⟩ = F at hput hle
  have f0 : ep = F 0 := by rw [← hF]; rfl
  have f1 : fr = F 1 := by rw [← hF]; rfl
  have f2 : co = F 2 := by rw [← hF]; rfl
  have f3 : (body.size : Int) = F 3 := by rw [← hF]; rfl
  have hpl : plainF ⟨ep, fr, co, body⟩ = (⟨#[68, 87, 76, 1]⟩ : ByteArray) ++ encsStr F 4 ++ body := by unfold plainF; rw [hF]
  generalize sealed (plainF ⟨ep, fr, co, body⟩) = SS at hS
  rw [hpl] at hS hps
  have hP := fun W : World => vary_put (some ⟨W.heap.size, 0, none⟩) 4 4 F (W.alloc (.cells #[.int .i64 ep, .int .i64 fr, .int .i64 co, .int .i64 (body.size : Int)] 3))
    (Rd.of_blk (Blk.made _ _ _) 0 (by simp) (by intro i hi; rcases (show i = 0 ∨ i = 1 ∨ i = 2 ∨ i = 3 by omega) with rfl | rfl | rfl | rfl <;> simp [f0, f1, f2, f3])) (by omega) hle
  rw [hput] at hP
  have hes := encsStr_size F 4
  generalize encsStr F 4 = T at hP hS hps hes
  clear hput hle hpl hF f0 f1 f2 f3 hes
  replace hP := hide hP
  replace hS := hide hS
  replace hR := hide hR
  simp only [ByteArray.size_append] at hps
  have hT : T.size ≤ 1048616 := by omega
  clear hps
  go_enter Tryz.func63, Tryz.ntmps63
  go_wp2_with fail
  refine (hR.out _).mono ?_
  rintro e w1 ⟨rfl, hb1⟩
  have hbl := (Blk.made w 119 #[.int .i64 ep, .int .i64 fr, .int .u64 co, .string body]).kept hb1
  have c0 := hbl.cell 0
  have c1 := hbl.cell 1
  have c2 := hbl.cell 2
  have c3 := hbl.cell 3
  simp only [List.getElem?_toArray, List.getElem?_cons_zero, List.getElem?_cons_succ] at c0 c1 c2 c3
  go_wp2_with fail
  refine (hP.out _).mono ?_
  rintro e w2 ⟨rfl, hb2⟩
  have hbl2 := (hbl.alloc (.cells #[.int .i64 ep, .int .i64 fr, .int .i64 co, .int .i64 (body.size : Int)] 3)).kept hb2
  have d3 := hbl2.cell 3
  simp only [List.getElem?_toArray, List.getElem?_cons_zero, List.getElem?_cons_succ] at d3
  go_wp2_with fail
  refine (hS.out _).mono ?_
  rintro e w3 ⟨rfl, hb3⟩
  go_wp2_with fail
  go_ret2
  exact ⟨rfl, bthen (bthen (balloc (bthen (balloc0 _ _) hb1) _) hb2) hb3⟩

theorem letter_encode (x : Let) (h : x.Wf) (w : World) : Calls Tryz.prog 63 #[lv x] w fun e w' => e = .returned (.tuple #[.string (encodeF x).1, .int .i64 (encodeF x).2]) ∧ Below w.heap.size w w' := by
  unfold encodeF
  by_cases hr : rightF x = true
  · rw [if_pos hr]; exact letter_encode_yes x h w hr
  · rw [if_neg hr]
    have hR := fun W => letter_right x h W
    rw [show rightF x = false by simpa using hr] at hR
    obtain ⟨ep, fr, co, body⟩ := x
    replace hR := hide hR
    go_enter Tryz.func63, Tryz.ntmps63
    go_wp2_with fail
    refine (hR.out _).mono ?_
    rintro e w1 ⟨rfl, hb1⟩
    go_wp2_with fail
    go_ret2
    exact ⟨rfl, bthen (balloc0 _ _) hb1⟩
end Go.Proofs.YteebghoijaaakaaGreat
/- The walks of layer 29, on: the reference's bytes of a letter. By the prover of this repo. -/
namespace Go.Proofs.YteebghoijaaakaaGreat
open Go.RowKit
open VaryM SealM

theorem plain_join (ep fr co : Int) (body : ByteArray) : (((((⟨#[68, 87, 76, 1]⟩ : ByteArray) ++ encStr ep) ++ encStr fr) ++ encStr co) ++ encStr (body.size : Int)) ++ body = plainF ⟨ep, fr, co, body⟩ :=
  str_ext (by simp [plainF, encsStr, encStr, encs, nums])

end Go.Proofs.YteebghoijaaakaaGreat
/- The walks of layer 29, on: the two closures in letter.Decode, a text without what it begins with. By the prover of this repo. -/
namespace Go.Proofs.YteebghoijaaakaaGreat
open Go.RowKit
open VaryM SealM

theorem setCell_same {w : World} {g i : Nat} {t : TypeId} {cs : Array Value} {v : Value} (h : Blk w g t cs) (hi : cs[i]? = some v) : w.setCell ⟨g, i, none⟩ v = w := by
  unfold Blk at h
  have hcs : cs.setIfInBounds i v = cs := by
    apply Array.ext_getElem?
    intro j
    rw [Array.getElem?_setIfInBounds]
    split
    · rename_i hj
      subst hj
      rw [hi]
      have := (Array.getElem?_eq_some_iff.1 hi).1
      simp [this]
    · rfl
  have hh : (w.setCell ⟨g, i, none⟩ v).heap = w.heap := by
    apply Array.ext_getElem?
    intro j
    unfold World.setCell
    simp only [Array.getElem?_modify]
    split
    · rename_i hj
      subst hj
      simp [h, hcs]
    · rfl
  have e : w.setCell ⟨g, i, none⟩ v = { w with heap := (w.setCell ⟨g, i, none⟩ v).heap } := rfl
  rw [e, hh]

/-- What is told of an error, and what it is then. -/
def failF (b : Bool) (f e : Int) : Int := if b = true ∧ e = 0 then f else e

set_option maxRecDepth 100000 in
theorem letter_fail (b : Bool) (f e : Int) (ge : Nat) (w : World) (hE : Blk w ge 37 #[.int .i64 e]) :
    Calls Tryz.prog 111 #[.bool b, .int .i64 f, .pointer (some ⟨ge, 0, none⟩)] w fun r w' => r = .returned (.tuple #[]) ∧ w' = w.setCell ⟨ge, 0, none⟩ (.int .i64 (failF b f e)) := by
  have c0 := hE.cell 0
  have f0 := hE.free 0
  simp only [List.getElem?_toArray, List.getElem?_cons_zero] at c0
  cases b
  · have hs := hide (setCell_same (i := 0) hE rfl)
    go_enter Tryz.func111, Tryz.ntmps111
    go_wp2
    go_end0
    exact ⟨rfl, hs.out.symm⟩
  · by_cases he : e = 0
    · subst he
      clear hE
      go_enter Tryz.func111, Tryz.ntmps111
      go_wp2
      go_end0
      exact ⟨rfl, rfl⟩
    · have hs := hide (setCell_same (i := 0) hE rfl)
      have hF : Hid (failF true f e = e) := by show _ = _; unfold failF; rw [if_neg (fun h => he h.2)]
      have he2 : (e == 0) = false := by simpa using he
      clear he hE
      go_enter Tryz.func111, Tryz.ntmps111
      go_wp2
      go_end0
      exact ⟨rfl, by rw [hF.out]; exact hs.out.symm⟩

/-- The next number of what is left: the number, the error, what is left then. -/
def numF (e : Int) (t : ByteArray) : Int × Int × ByteArray :=
  if e = 0 then (((get t.data.toList).1 : Int), ((get t.data.toList).2.2 : Int), t.extract (get t.data.toList).2.1 t.size) else (0, e, t)

set_option maxRecDepth 100000 in
theorem letter_number (e : Int) (t : ByteArray) (ge gl gf : Nat) (w : World) (hE : Blk w ge 37 #[.int .i64 e]) (hL : Blk w gl 9 #[.string t])
    (hF : Blk w gf 164 #[.func (.func 111) #[] #[.pointer (some ⟨ge, 0, none⟩)]]) (h1 : gl ≠ ge) (h2 : gf ≠ ge) (ht : t.size ≤ 1000000000) :
    Calls Tryz.prog 113 #[.pointer (some ⟨ge, 0, none⟩), .pointer (some ⟨gl, 0, none⟩), .pointer (some ⟨gf, 0, none⟩)] w fun r w' =>
      r = .returned (.int .i64 (numF e t).1) ∧ w' = (w.setCell ⟨ge, 0, none⟩ (.int .i64 (numF e t).2.1)).setCell ⟨gl, 0, none⟩ (.string (numF e t).2.2) := by
  have cE := hE.cell 0
  have cL := hL.cell 0
  have cF := hF.cell 0
  simp only [List.getElem?_toArray, List.getElem?_cons_zero] at cE cL cF
  by_cases he : e = 0
  · subst he
    have hN : Hid (numF 0 t = (((get t.data.toList).1 : Int), ((get t.data.toList).2.2 : Int), t.extract (get t.data.toList).2.1 t.size)) := by show _ = _; unfold numF; rw [if_pos rfl]
    have hg := fun W => vary_get_big t W ht
    have hfa := get_facts t.data.toList
    rw [Array.length_toList, show t.data.size = t.size from rfl] at hfa
    unfold getV at hg
    generalize get t.data.toList = g at hg hN hfa
    obtain ⟨n, sz, er⟩ := g
    simp only at hg hN hfa
    have hsz : sz ≤ t.size := by
      by_cases h0 : er = 0
      · exact (hfa.2.1 h0).2.1
      · rw [(hfa.2.2.1 h0).2]; omega
    have hfl := fun W (hW : Blk W ge 37 #[.int .i64 0]) => letter_fail (decide (er ≠ 0)) (er : Int) 0 ge W hW
    have hff : failF (decide (er ≠ 0)) (er : Int) 0 = (er : Int) := by unfold failF; by_cases h0 : er = 0 <;> simp [h0]
    rw [hff] at hfl
    have hne : ((er : Int) != 0) = decide (er ≠ 0) := by rw [Bool.eq_iff_iff]; simp
    generalize decide (er ≠ 0) = B at hfl hne
    have hEb := hide hE
    have hLb := hide hL
    replace hg := hide hg
    replace hfl := hide hfl
    clear hfa hff hE hL hF
    go_enter Tryz.func113, Tryz.ntmps113
    go_wp2_with fail
    refine (hg.out _).mono ?_
    rintro r w1 ⟨rfl, rfl⟩
    go_wp2_with fail
    refine (hfl.out _ hEb.out).mono ?_
    rintro r w2 ⟨rfl, hw2⟩
    have hL2 : Blk w2 gl 9 #[.string t] := by rw [hw2]; exact hLb.out.off h1 _
    have dL := hL2.cell 0
    have fL := hL2.free 0
    simp only [List.getElem?_toArray, List.getElem?_cons_zero] at dL
    replace hw2 := hide hw2
    clear hL2
    go_wp2_with fail
    go_ret
    exact ⟨by rw [hN.out]; rfl, by rw [hN.out, hw2.out]⟩
  · have hN : Hid (numF e t = (0, e, t)) := by show _ = _; unfold numF; rw [if_neg he]
    have hs := hide (setCell_same (i := 0) (v := .int .i64 e) hE rfl)
    have hs2 := hide (setCell_same (i := 0) (v := .string t) hL rfl)
    have he2 : (e != 0) = true := by simpa using he
    clear he hE hL hF
    go_enter Tryz.func113, Tryz.ntmps113
    go_wp2_with fail
    go_ret
    refine ⟨by rw [hN.out]; rfl, ?_⟩
    rw [hN.out]
    show w = (w.setCell ⟨ge, 0, none⟩ (.int .i64 e)).setCell ⟨gl, 0, none⟩ (.string t)
    rw [hs.out, hs2.out]

theorem take_left (s p : ByteArray) (h : p.size ≤ s.size) : (s.extract 0 p.size = p) ↔ s.data.toList.take p.size = p.data.toList := by
  rw [← extract_take]
  exact ⟨fun h => by rw [h], str_ext⟩
/-- Whether a text begins with another one. -/
theorem has_prefix (s p : ByteArray) (w : World) : Calls Tryz.prog 190 #[.string s, .string p] w fun r w' => r = .returned (.bool (decide (p.size ≤ s.size ∧ s.extract 0 p.size = p))) ∧ w = w' := by
  by_cases h : p.size ≤ s.size
  · by_cases h2 : s.extract 0 p.size = p
    · rw [decide_eq_true ⟨h, h2⟩]
      have hb : Hid (((s.extract 0 p.size).toList == p.toList) = true) := by show _ = _; rw [h2]; simp
      clear h2
      go_enter Tryz.func190, Tryz.ntmps190
      go_wp2_with fail
      go_ret
      refine ⟨ret_congr (bool_congr ?_), rfl⟩
      first | exact hb.out | (have := hb.out; simpa using this)
    · rw [decide_eq_false (fun k => h2 k.2)]
      have hb := hide (str_ne h2)
      clear h2
      go_enter Tryz.func190, Tryz.ntmps190
      go_wp2_with fail
      go_ret
      refine ⟨ret_congr (bool_congr ?_), rfl⟩
      first | exact hb.out | (have := hb.out; simpa using this)
  · rw [decide_eq_false (fun k => h k.1)]
    go_enter Tryz.func190, Tryz.ntmps190
    go_wp2_with fail
    go_ret
    exact ⟨rfl, rfl⟩
/-- A text without what it begins with. -/
def cutP (s p : ByteArray) : ByteArray × Bool := if p.size ≤ s.size ∧ s.extract 0 p.size = p then (s.extract p.size s.size, true) else (s, false)
theorem cut_lite (s p : ByteArray) (w : World) : Calls Tryz.prog 164 #[.string s, .string p] w fun r w' => r = .returned (.tuple #[.string (cutP s p).1, .bool (cutP s p).2]) ∧ w = w' := by
  have hp := fun W => has_prefix s p W
  unfold cutP
  by_cases h : p.size ≤ s.size ∧ s.extract 0 p.size = p
  · rw [decide_eq_true h] at hp
    rw [if_pos h]
    have h1 := h.1
    replace hp := hide hp
    clear h
    go_enter Tryz.func164, Tryz.ntmps164
    go_wp2_with (go_at_call 190; refine (hp.out _).mono ?_; rintro e w1 ⟨rfl, rfl⟩)
    go_ret2
    exact ⟨rfl, rfl⟩
  · rw [decide_eq_false h] at hp
    rw [if_neg h]
    replace hp := hide hp
    clear h
    go_enter Tryz.func164, Tryz.ntmps164
    go_wp2_with (go_at_call 190; refine (hp.out _).mono ?_; rintro e w1 ⟨rfl, rfl⟩)
    go_ret2
    exact ⟨rfl, rfl⟩
theorem cut_prefix (s p : ByteArray) (w : World) : Calls Tryz.prog 112 #[.string s, .string p] w fun r w' => r = .returned (.tuple #[.string (cutP s p).1, .bool (cutP s p).2]) ∧ w = w' := by
  have hp := hide (fun W => cut_lite s p W)
  go_enter Tryz.func112, Tryz.ntmps112
  go_wp2_with (go_at_call 164; refine (hp.out _).mono ?_; rintro e w1 ⟨rfl, rfl⟩)
  go_ret2
  exact ⟨rfl, rfl⟩
end Go.Proofs.YteebghoijaaakaaGreat
/- The walks of layer 29, on: the letter of bytes. By the prover of this repo. -/
namespace Go.Proofs.YteebghoijaaakaaGreat
open Go.RowKit
open VaryM SealM

abbrev magic : ByteArray := ⟨#[68, 87, 76, 1]⟩
/-- What lies in letter.Decode's own memory: its result, the error, the closure that tells of errors, what is left of the text, the letter. -/
structure Dst (W w : World) (gr ge gf gl gx : Nat) (e : Int) (t : ByteArray) (x0 x1 x2 : Int) (x3 : ByteArray) : Prop where
  bel : Below W.heap.size W w
  R : Blk w gr 119 #[.int .i64 0, .int .i64 0, .int .u64 0, .string ⟨#[]⟩]
  E : Blk w ge 37 #[.int .i64 e]
  F : Blk w gf 164 #[.func (.func 111) #[] #[.pointer (some ⟨ge, 0, none⟩)]]
  L : Blk w gl 9 #[.string t]
  X : Blk w gx 119 #[.int .i64 x0, .int .i64 x1, .int .u64 x2, .string x3]
  l0 : W.heap.size ≤ gr
  l1 : gr < ge
  l2 : ge < gf
  l3 : gf < gl
  l4 : gl < gx
  s1 : t.size ≤ 1000000000
section
variable {W w : World} {gr ge gf gl gx : Nat} {e : Int} {t : ByteArray} {x0 x1 x2 : Int} {x3 : ByteArray}
theorem Dst.fail (D : Dst W w gr ge gf gl gx e t x0 x1 x2 x3) (b : Bool) (f e' : Int) (h : failF b f e = e') :
    Calls Tryz.prog 111 #[.bool b, .int .i64 f, .pointer (some ⟨ge, 0, none⟩)] w fun r w' => r = .returned (.tuple #[]) ∧ Dst W w' gr ge gf gl gx e' t x0 x1 x2 x3 :=
  (letter_fail b f e ge w D.E).mono fun r w' ⟨hr, hw⟩ => by
    rw [h] at hw
    subst hw
    obtain ⟨bel, R, E, F, L, X, l0, l1, l2, l3, l4, s1⟩ := D
    exact ⟨hr, bel.setCell (by simp; omega) _, R.off (by simp; omega) _, by simpa using E.set 0 (.int .i64 e'), F.off (by simp; omega) _, L.off (by simp; omega) _, X.off (by simp; omega) _, l0, l1, l2, l3, l4, s1⟩
theorem Dst.num (D : Dst W w gr ge gf gl gx e t x0 x1 x2 x3) (n e' : Int) (t' : ByteArray) (h : numF e t = (n, e', t')) (hs : t'.size ≤ t.size) :
    Calls Tryz.prog 113 #[.pointer (some ⟨ge, 0, none⟩), .pointer (some ⟨gl, 0, none⟩), .pointer (some ⟨gf, 0, none⟩)] w fun r w' => r = .returned (.int .i64 n) ∧ Dst W w' gr ge gf gl gx e' t' x0 x1 x2 x3 :=
  (letter_number e t ge gl gf w D.E D.L D.F (by have := D.l2; have := D.l3; omega) (by have := D.l2; omega) D.s1).mono fun r w' ⟨hr, hw⟩ => by
    rw [h] at hr hw
    subst hw
    obtain ⟨bel, R, E, F, L, X, l0, l1, l2, l3, l4, s1⟩ := D
    refine ⟨hr, (bel.setCell (by simp; omega) _).setCell (by simp; omega) _, (R.off (by simp; omega) _).off (by simp; omega) _, ?_, (F.off (by simp; omega) _).off (by simp; omega) _, ?_, (X.off (by simp; omega) _).off (by simp; omega) _, l0, l1, l2, l3, l4, by omega⟩
    · refine Blk.off ?_ (by simp; omega) _
      simpa using E.set 0 (.int .i64 e')
    · simpa using (L.off (p := ⟨ge, 0, none⟩) (by simp; omega) (.int .i64 e')).set 0 (.string t')
theorem Dst.set0 (D : Dst W w gr ge gf gl gx e t x0 x1 x2 x3) (n : Int) : Dst W (w.setCell ⟨gx, 0, none⟩ (.int .i64 n)) gr ge gf gl gx e t n x1 x2 x3 := by
  obtain ⟨bel, R, E, F, L, X, l0, l1, l2, l3, l4, s1⟩ := D
  exact ⟨bel.setCell (by simp; omega) _, R.off (by simp; omega) _, E.off (by simp; omega) _, F.off (by simp; omega) _, L.off (by simp; omega) _, by simpa using X.set 0 (.int .i64 n), l0, l1, l2, l3, l4, s1⟩
theorem Dst.set1 (D : Dst W w gr ge gf gl gx e t x0 x1 x2 x3) (n : Int) : Dst W (w.setCell ⟨gx, 1, none⟩ (.int .i64 n)) gr ge gf gl gx e t x0 n x2 x3 := by
  obtain ⟨bel, R, E, F, L, X, l0, l1, l2, l3, l4, s1⟩ := D
  exact ⟨bel.setCell (by simp; omega) _, R.off (by simp; omega) _, E.off (by simp; omega) _, F.off (by simp; omega) _, L.off (by simp; omega) _, by simpa using X.set 1 (.int .i64 n), l0, l1, l2, l3, l4, s1⟩
theorem Dst.set2 (D : Dst W w gr ge gf gl gx e t x0 x1 x2 x3) (n : Int) : Dst W (w.setCell ⟨gx, 2, none⟩ (.int .u64 n)) gr ge gf gl gx e t x0 x1 n x3 := by
  obtain ⟨bel, R, E, F, L, X, l0, l1, l2, l3, l4, s1⟩ := D
  exact ⟨bel.setCell (by simp; omega) _, R.off (by simp; omega) _, E.off (by simp; omega) _, F.off (by simp; omega) _, L.off (by simp; omega) _, by simpa using X.set 2 (.int .u64 n), l0, l1, l2, l3, l4, s1⟩
theorem Dst.set3 (D : Dst W w gr ge gf gl gx e t x0 x1 x2 x3) (n : ByteArray) : Dst W (w.setCell ⟨gx, 3, none⟩ (.string n)) gr ge gf gl gx e t x0 x1 x2 n := by
  obtain ⟨bel, R, E, F, L, X, l0, l1, l2, l3, l4, s1⟩ := D
  exact ⟨bel.setCell (by simp; omega) _, R.off (by simp; omega) _, E.off (by simp; omega) _, F.off (by simp; omega) _, L.off (by simp; omega) _, by simpa using X.set 3 (.string n), l0, l1, l2, l3, l4, s1⟩
theorem Dst.alloc (D : Dst W w gr ge gf gl gx e t x0 x1 x2 x3) (o : Obj) : Dst W (w.alloc o) gr ge gf gl gx e t x0 x1 x2 x3 := by
  obtain ⟨bel, R, E, F, L, X, l0, l1, l2, l3, l4, s1⟩ := D
  exact ⟨bel.alloc bel.size _, R.alloc _, E.alloc _, F.alloc _, L.alloc _, X.alloc _, l0, l1, l2, l3, l4, s1⟩
theorem Dst.drew (D : Dst W w gr ge gf gl gx e t x0 x1 x2 x3) (n : Nat) : Dst W (w.drewN n) gr ge gf gl gx e t x0 x1 x2 x3 := by
  obtain ⟨bel, R, E, F, L, X, l0, l1, l2, l3, l4, s1⟩ := D
  exact ⟨below_drewN bel n, R.drewN n, E.drewN n, F.drewN n, L.drewN n, X.drewN n, l0, l1, l2, l3, l4, s1⟩
/-- What the walk asks of these cells. -/
theorem Dst.facts (D : Dst W w gr ge gf gl gx e t x0 x1 x2 x3) :
    w.cell? ⟨ge, 0, none⟩ = some (.int .i64 e) ∧ w.cell? ⟨gf, 0, none⟩ = some (.func (.func 111) #[] #[.pointer (some ⟨ge, 0, none⟩)]) ∧ w.cell? ⟨gl, 0, none⟩ = some (.string t) ∧
    w.cell? ⟨gx, 0, none⟩ = some (.int .i64 x0) ∧ w.cell? ⟨gx, 1, none⟩ = some (.int .i64 x1) ∧ w.cell? ⟨gx, 2, none⟩ = some (.int .u64 x2) ∧ w.cell? ⟨gx, 3, none⟩ = some (.string x3) ∧ (∀ i, w.frozen? ⟨gx, i, none⟩ = false) :=
  ⟨D.E.cell 0, D.F.cell 0, D.L.cell 0, D.X.cell 0, D.X.cell 1, D.X.cell 2, D.X.cell 3, D.X.free⟩
theorem Dst.res (D : Dst W w gr ge gf gl gx e t x0 x1 x2 x3) :
    w.cell? ⟨gr, 0, none⟩ = some (.int .i64 0) ∧ w.cell? ⟨gr, 1, none⟩ = some (.int .i64 0) ∧ w.cell? ⟨gr, 2, none⟩ = some (.int .u64 0) ∧ w.cell? ⟨gr, 3, none⟩ = some (.string ⟨#[]⟩) ∧ (∀ i, w.frozen? ⟨gr, i, none⟩ = false) :=
  ⟨D.R.cell 0, D.R.cell 1, D.R.cell 2, D.R.cell 3, D.R.free⟩
theorem Dst.ne (D : Dst W w gr ge gf gl gx e t x0 x1 x2 x3) : ¬ gx = ge ∧ ¬ gx = gf ∧ ¬ gx = gl ∧ ¬ gx = gr ∧ ¬ ge = gx ∧ ¬ gf = gx ∧ ¬ gl = gx ∧ ¬ gr = gx ∧ gx < w.heap.size := by
  have hX := D.X.lt
  obtain ⟨bel, R, E, F, L, X, l0, l1, l2, l3, l4, s1⟩ := D
  omega
end

theorem num_bd (e : Int) (t : ByteArray) : 0 ≤ (numF e t).1 ∧ (numF e t).1 < 9223372036854775808 ∧ (numF e t).2.2.size ≤ t.size := by
  unfold numF
  split
  · have := (get_facts t.data.toList).1
    exact ⟨by simp, by simp only; omega, by simp⟩
  · exact ⟨by simp, by simp, by simp⟩
end Go.Proofs.YteebghoijaaakaaGreat

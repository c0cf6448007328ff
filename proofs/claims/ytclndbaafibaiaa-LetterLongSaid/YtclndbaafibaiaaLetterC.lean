/- The walks of layer 29, on: the two closures in letter.Decode, a text without what it begins with. By the prover of this repo. -/
import Derived.Test.YtclndbaafibaiaaLetterF
import Derived.Test.YtclndbaafibaiaaVaryG
import Derived.Test.YtclndbaafibaiaaVaryN
import Derived.Test.YtclndbaafibaiaaCrewB
namespace Go.Proofs.Ytclndbaafibaiaa
open Go.RowKit
open VaryM SealM

theorem setCell_same {w : World} {g i : Nat} {t : TypeId} {cs : Array Value} {v : Value} (h : Blk w g t cs) (hi : cs[i]? = some v) : w.setCell ⟨g, i, none⟩ v = w := by
  unfold Blk at h
  have hcs : cs.setIfInBounds i v = cs := by
    apply Array.ext_getElem?
    intro j
    rw [Array.getElem?_setIfInBounds]
    split
    · rename_i hj
      subst hj
      rw [hi]
      have := (Array.getElem?_eq_some_iff.1 hi).1
      simp [this]
    · rfl
  have hh : (w.setCell ⟨g, i, none⟩ v).heap = w.heap := by
    apply Array.ext_getElem?
    intro j
    unfold World.setCell
    simp only [Array.getElem?_modify]
    split
    · rename_i hj
      subst hj
      simp [h, hcs]
    · rfl
  have e : w.setCell ⟨g, i, none⟩ v = { w with heap := (w.setCell ⟨g, i, none⟩ v).heap } := rfl
  rw [e, hh]

/-- What is told of an error, and what it is then. -/
def failF (b : Bool) (f e : Int) : Int := if b = true ∧ e = 0 then f else e

set_option maxRecDepth 100000 in
theorem letter_fail (b : Bool) (f e : Int) (ge : Nat) (w : World) (hE : Blk w ge 34 #[.int .i64 e]) :
    Calls Try.prog 56 #[.bool b, .int .i64 f, .pointer (some ⟨ge, 0, none⟩)] w fun r w' => r = .returned (.tuple #[]) ∧ w' = w.setCell ⟨ge, 0, none⟩ (.int .i64 (failF b f e)) := by
  have c0 := hE.cell 0
  have f0 := hE.free 0
  simp only [List.getElem?_toArray, List.getElem?_cons_zero] at c0
  cases b
  · have hs := hide (setCell_same (i := 0) hE rfl)
    go_enter Try.func56, Try.ntmps56
    go_wp2
    go_end0
    exact ⟨rfl, hs.out.symm⟩
  · by_cases he : e = 0
    · subst he
      clear hE
      go_enter Try.func56, Try.ntmps56
      go_wp2
      go_end0
      exact ⟨rfl, rfl⟩
    · have hs := hide (setCell_same (i := 0) hE rfl)
      have hF : Hid (failF true f e = e) := by show _ = _; unfold failF; rw [if_neg (fun h => he h.2)]
      have he2 : (e == 0) = false := by simpa using he
      clear he hE
      go_enter Try.func56, Try.ntmps56
      go_wp2
      go_end0
      exact ⟨rfl, by rw [hF.out]; exact hs.out.symm⟩

/-- The next number of what is left: the number, the error, what is left then. -/
def numF (e : Int) (t : ByteArray) : Int × Int × ByteArray :=
  if e = 0 then (((get t.data.toList).1 : Int), ((get t.data.toList).2.2 : Int), t.extract (get t.data.toList).2.1 t.size) else (0, e, t)

set_option maxRecDepth 100000 in
theorem letter_number (e : Int) (t : ByteArray) (ge gl gf : Nat) (w : World) (hE : Blk w ge 34 #[.int .i64 e]) (hL : Blk w gl 9 #[.string t])
    (hF : Blk w gf 95 #[.func (.func 56) #[] #[.pointer (some ⟨ge, 0, none⟩)]]) (h1 : gl ≠ ge) (h2 : gf ≠ ge) (ht : t.size ≤ 1000000000) :
    Calls Try.prog 58 #[.pointer (some ⟨ge, 0, none⟩), .pointer (some ⟨gl, 0, none⟩), .pointer (some ⟨gf, 0, none⟩)] w fun r w' =>
      r = .returned (.int .i64 (numF e t).1) ∧ w' = (w.setCell ⟨ge, 0, none⟩ (.int .i64 (numF e t).2.1)).setCell ⟨gl, 0, none⟩ (.string (numF e t).2.2) := by
  have cE := hE.cell 0
  have cL := hL.cell 0
  have cF := hF.cell 0
  simp only [List.getElem?_toArray, List.getElem?_cons_zero] at cE cL cF
  by_cases he : e = 0
  · subst he
    have hN : Hid (numF 0 t = (((get t.data.toList).1 : Int), ((get t.data.toList).2.2 : Int), t.extract (get t.data.toList).2.1 t.size)) := by show _ = _; unfold numF; rw [if_pos rfl]
    have hg := fun W => vary_get_big t W ht
    have hfa := get_facts t.data.toList
    rw [Array.length_toList, show t.data.size = t.size from rfl] at hfa
    unfold getV at hg
    generalize get t.data.toList = g at hg hN hfa
    obtain ⟨n, sz, er⟩ := g
    simp only at hg hN hfa
    have hsz : sz ≤ t.size := by
      by_cases h0 : er = 0
      · exact (hfa.2.1 h0).2.1
      · rw [(hfa.2.2.1 h0).2]; omega
    have hfl := fun W (hW : Blk W ge 34 #[.int .i64 0]) => letter_fail (decide (er ≠ 0)) (er : Int) 0 ge W hW
    have hff : failF (decide (er ≠ 0)) (er : Int) 0 = (er : Int) := by unfold failF; by_cases h0 : er = 0 <;> simp [h0]
    rw [hff] at hfl
    have hne : ((er : Int) != 0) = decide (er ≠ 0) := by rw [Bool.eq_iff_iff]; simp
    generalize decide (er ≠ 0) = B at hfl hne
    have hEb := hide hE
    have hLb := hide hL
    replace hg := hide hg
    replace hfl := hide hfl
    clear hfa hff hE hL hF
    go_enter Try.func58, Try.ntmps58
    go_wp2_with fail
    refine (hg.out _).mono ?_
    rintro r w1 ⟨rfl, rfl⟩
    go_wp2_with fail
    refine (hfl.out _ hEb.out).mono ?_
    rintro r w2 ⟨rfl, hw2⟩
    have hL2 : Blk w2 gl 9 #[.string t] := by rw [hw2]; exact hLb.out.off h1 _
    have dL := hL2.cell 0
    have fL := hL2.free 0
    simp only [List.getElem?_toArray, List.getElem?_cons_zero] at dL
    replace hw2 := hide hw2
    clear hL2
    go_wp2_with fail
    go_ret
    exact ⟨by rw [hN.out]; rfl, by rw [hN.out, hw2.out]⟩
  · have hN : Hid (numF e t = (0, e, t)) := by show _ = _; unfold numF; rw [if_neg he]
    have hs := hide (setCell_same (i := 0) (v := .int .i64 e) hE rfl)
    have hs2 := hide (setCell_same (i := 0) (v := .string t) hL rfl)
    have he2 : (e != 0) = true := by simpa using he
    clear he hE hL hF
    go_enter Try.func58, Try.ntmps58
    go_wp2_with fail
    go_ret
    refine ⟨by rw [hN.out]; rfl, ?_⟩
    rw [hN.out]
    show w = (w.setCell ⟨ge, 0, none⟩ (.int .i64 e)).setCell ⟨gl, 0, none⟩ (.string t)
    rw [hs.out, hs2.out]

theorem take_left (s p : ByteArray) (h : p.size ≤ s.size) : (s.extract 0 p.size = p) ↔ s.data.toList.take p.size = p.data.toList := by
  rw [← extract_take]
  exact ⟨fun h => by rw [h], str_ext⟩
/-- Whether a text begins with another one. -/
theorem has_prefix (s p : ByteArray) (w : World) : Calls Try.prog 66 #[.string s, .string p] w fun r w' => r = .returned (.bool (decide (p.size ≤ s.size ∧ s.extract 0 p.size = p))) ∧ w = w' := by
  by_cases h : p.size ≤ s.size
  · by_cases h2 : s.extract 0 p.size = p
    · rw [decide_eq_true ⟨h, h2⟩]
      have hb : Hid (((s.extract 0 p.size).toList == p.toList) = true) := by show _ = _; rw [h2]; simp
      clear h2
      go_enter Try.func66, Try.ntmps66
      go_wp2_with fail
      go_ret
      refine ⟨ret_congr (bool_congr ?_), rfl⟩
      first | exact hb.out | (have := hb.out; simpa using this)
    · rw [decide_eq_false (fun k => h2 k.2)]
      have hb := hide (str_ne h2)
      clear h2
      go_enter Try.func66, Try.ntmps66
      go_wp2_with fail
      go_ret
      refine ⟨ret_congr (bool_congr ?_), rfl⟩
      first | exact hb.out | (have := hb.out; simpa using this)
  · rw [decide_eq_false (fun k => h k.1)]
    go_enter Try.func66, Try.ntmps66
    go_wp2_with fail
    go_ret
    exact ⟨rfl, rfl⟩
/-- A text without what it begins with. -/
def cutP (s p : ByteArray) : ByteArray × Bool := if p.size ≤ s.size ∧ s.extract 0 p.size = p then (s.extract p.size s.size, true) else (s, false)
theorem cut_lite (s p : ByteArray) (w : World) : Calls Try.prog 64 #[.string s, .string p] w fun r w' => r = .returned (.tuple #[.string (cutP s p).1, .bool (cutP s p).2]) ∧ w = w' := by
  have hp := fun W => has_prefix s p W
  unfold cutP
  by_cases h : p.size ≤ s.size ∧ s.extract 0 p.size = p
  · rw [decide_eq_true h] at hp
    rw [if_pos h]
    have h1 := h.1
    replace hp := hide hp
    clear h
    go_enter Try.func64, Try.ntmps64
    go_wp2_with (go_at_call 66; refine (hp.out _).mono ?_; rintro e w1 ⟨rfl, rfl⟩)
    go_ret2
    exact ⟨rfl, rfl⟩
  · rw [decide_eq_false h] at hp
    rw [if_neg h]
    replace hp := hide hp
    clear h
    go_enter Try.func64, Try.ntmps64
    go_wp2_with (go_at_call 66; refine (hp.out _).mono ?_; rintro e w1 ⟨rfl, rfl⟩)
    go_ret2
    exact ⟨rfl, rfl⟩
theorem cut_prefix (s p : ByteArray) (w : World) : Calls Try.prog 57 #[.string s, .string p] w fun r w' => r = .returned (.tuple #[.string (cutP s p).1, .bool (cutP s p).2]) ∧ w = w' := by
  have hp := hide (fun W => cut_lite s p W)
  go_enter Try.func57, Try.ntmps57
  go_wp2_with (go_at_call 64; refine (hp.out _).mono ?_; rintro e w1 ⟨rfl, rfl⟩)
  go_ret2
  exact ⟨rfl, rfl⟩
end Go.Proofs.Ytclndbaafibaiaa

/- The plain laws of layer 29: both ways to read a letter are one; what is written is read again. By the prover of this repo. -/
import Derived.Test.YtclndbaafibaiaaLetterG2
import Derived.Test.YtclndbaafibaiaaLetterR
import Derived.Test.YtclndbaafibaiaaCrewC
import Derived.Test.YtclndbaafibaiaaVaryB
import Derived.Test.YtclndbaafibaiaaSealT
namespace Go.Proofs.Ytclndbaafibaiaa
open VaryM SealM

theorem failF_ne {b : Bool} {f e : Int} (h : e ≠ 0) : failF b f e = e := if_neg fun k => h k.2
theorem failF_true {f : Int} : failF true f 0 = f := if_pos ⟨rfl, rfl⟩
theorem failF_false {f e : Int} : failF false f e = e := if_neg (by simp)
theorem numF_ne {e : Int} {t : ByteArray} (h : e ≠ 0) : numF e t = (0, e, t) := if_neg h
theorem numF_get {t : ByteArray} {v sz e : Nat} (hg : get t.data.toList = (v, sz, e)) : numF 0 t = ((v : Int), (e : Int), t.extract sz t.size) := by
  unfold numF; rw [if_pos rfl, hg]

/-- The steps of letter.Decode, from number i on. -/
def dF3 (a b d e : Int) (t : ByteArray) : Let × Int :=
  let n := numF e t
  let e9 := failF (decide (1048576 < n.1)) 13 n.2.1
  let e10 := failF (decide ((n.2.2.size : Int) < n.1)) 9 e9
  let e11 := failF (decide (n.1 < (n.2.2.size : Int))) 11 e10
  if e11 = 0 then (⟨a, b, d, n.2.2⟩, 0) else (noLet, e11)
def dF2 (a b ow e : Int) (t : ByteArray) : Let × Int :=
  let n := numF e t
  dF3 a b n.1 (failF (coverF ow n.1) 10 n.2.1) n.2.2
def dF1 (a e : Int) (t : ByteArray) : Let × Int :=
  let n := numF e t
  dF2 a n.1 (ofF [n.1]).1 (failF (!(ofF [n.1]).2) 10 n.2.1) n.2.2
def dF0 (e : Int) (t : ByteArray) : Let × Int :=
  let n := numF e t
  dF1 n.1 n.2.1 n.2.2
theorem decF_steps (all : ByteArray) : decF all = dF0 (failF (!(cutP (openRes all).1 magic).2) 10 (failF (decide (((openRes all).1.size : Int) < 4)) 9 (openRes all).2)) (cutP (openRes all).1 magic).1 := rfl

theorem dF3_ne {a b d e : Int} {t : ByteArray} (h : e ≠ 0) : dF3 a b d e t = (noLet, e) := by
  unfold dF3
  simp only [numF_ne h, failF_ne h, if_neg h]
theorem dF2_ne {a b ow e : Int} {t : ByteArray} (h : e ≠ 0) : dF2 a b ow e t = (noLet, e) := by
  unfold dF2
  simp only [numF_ne h, failF_ne h, dF3_ne h]
theorem dF1_ne {a e : Int} {t : ByteArray} (h : e ≠ 0) : dF1 a e t = (noLet, e) := by
  unfold dF1
  simp only [numF_ne h, failF_ne h, dF2_ne h]
theorem dF0_ne {e : Int} {t : ByteArray} (h : e ≠ 0) : dF0 e t = (noLet, e) := by
  unfold dF0
  simp only [numF_ne h, dF1_ne h]

theorem dF3_ref (a b d : Int) (t : ByteArray) : dF3 a b d 0 t = refT 1 a b d 0 t := by
  obtain ⟨v, sz, e, hg⟩ : ∃ v sz e, get t.data.toList = (v, sz, e) := ⟨_, _, _, rfl⟩
  by_cases he : e = 0
  · subst he
    unfold dF3
    simp only [numF_get hg]
    by_cases hc : 1048576 < (v : Int)
    · rw [refT_cap hg hc, decide_eq_true hc, show ((0 : Nat) : Int) = 0 from rfl, failF_true, failF_ne (show (13 : Int) ≠ 0 by omega), failF_ne (show (13 : Int) ≠ 0 by omega), if_neg (show ¬ (13 : Int) = 0 by omega)]
    · rw [refT_on (k := 0) hg (by simp [badR]) (by simp; omega), decide_eq_false hc, failF_false]
      simp only [refT, show ((0 : Nat) : Int) = 0 from rfl]
      simp only [show (3 : Nat) - 0 = 3 from rfl, if_true, show ¬ (3 : Nat) = 0 from by omega, show ¬ (3 : Nat) = 1 from by omega, show ¬ (3 : Nat) = 2 from by omega, if_false]
      by_cases h1 : ((t.extract sz t.size).size : Int) < v
      · rw [decide_eq_true h1, failF_true, failF_ne (by omega), if_neg (by omega), if_pos h1]
      · rw [decide_eq_false h1, failF_false, if_neg h1]
        by_cases h2 : (v : Int) < ((t.extract sz t.size).size : Int)
        · rw [decide_eq_true h2, failF_true, if_neg (by omega), if_pos h2]
        · rw [decide_eq_false h2, failF_false, if_pos rfl, if_neg h2]
  · have he2 : (e : Int) ≠ 0 := by omega
    rw [refT_err hg he]
    unfold dF3
    simp only [numF_get hg, failF_ne he2, if_neg he2]

theorem dF2_ref (a b : Int) (t : ByteArray) (hb : 0 ≤ b ∧ b < 48) : dF2 a b (withF 0 b) 0 t = refT 2 a b 0 0 t := by
  obtain ⟨v, sz, e, hg⟩ : ∃ v sz e, get t.data.toList = (v, sz, e) := ⟨_, _, _, rfl⟩
  have hv : v < 9223372036854775808 := by have := (get_facts t.data.toList).1; rw [hg] at this; exact this
  unfold dF2
  simp only [numF_get hg]
  by_cases he : e = 0
  · subst he
    have hc : coverF (withF 0 b) (v : Int) = badR (3 - 1) (v : Int) b := by
      unfold coverF
      rw [within_one b v hb (by omega) (by omega)]
      simp [badR]
    rw [hc, show ((0 : Nat) : Int) = 0 from rfl]
    by_cases hbad : badR (3 - 1) (v : Int) b = true
    · rw [hbad, failF_true, dF3_ne (by omega), refT_bad (k := 1) hg hbad]
    · rw [refT_on (k := 1) hg hbad (by simp)]
      simp only [Bool.not_eq_true] at hbad
      rw [hbad, failF_false, dF3_ref]
      rfl
  · have he2 : (e : Int) ≠ 0 := by omega
    rw [refT_err hg he, failF_ne he2, dF3_ne he2]

theorem of_one (b : Int) : ofF [b] = if 0 ≤ b ∧ b < 48 then (withF 0 b, true) else (0, false) := rfl
theorem dF1_ref (a : Int) (t : ByteArray) : dF1 a 0 t = refT 3 a 0 0 0 t := by
  obtain ⟨v, sz, e, hg⟩ : ∃ v sz e, get t.data.toList = (v, sz, e) := ⟨_, _, _, rfl⟩
  unfold dF1
  simp only [numF_get hg, of_one]
  by_cases he : e = 0
  · subst he
    rw [show ((0 : Nat) : Int) = 0 from rfl]
    by_cases hb : 0 ≤ (v : Int) ∧ (v : Int) < 48
    · rw [if_pos hb, refT_on (k := 2) hg (by simp [badR]; omega) (by simp)]
      simp only [Bool.not_true]
      rw [failF_false, dF2_ref _ _ _ hb]
      rfl
    · rw [if_neg hb, refT_bad (k := 2) hg (by simp [badR]; omega)]
      simp only [Bool.not_false]
      rw [failF_true, dF2_ne (by omega)]
  · have he2 : (e : Int) ≠ 0 := by omega
    rw [refT_err hg he, failF_ne he2, dF2_ne he2]
theorem dF0_ref (t : ByteArray) : dF0 0 t = refT 4 0 0 0 0 t := by
  obtain ⟨v, sz, e, hg⟩ : ∃ v sz e, get t.data.toList = (v, sz, e) := ⟨_, _, _, rfl⟩
  unfold dF0
  simp only [numF_get hg]
  by_cases he : e = 0
  · subst he
    rw [show ((0 : Nat) : Int) = 0 from rfl, refT_on (k := 3) hg (by simp [badR]) (by simp), dF1_ref]
    rfl
  · have he2 : (e : Int) ≠ 0 := by omega
    rw [refT_err hg he, dF1_ne he2]

/-- Both ways to read a letter are one. -/
theorem dec_eq (all : ByteArray) : decF all = decR all := by
  rw [decF_steps]
  unfold decR
  generalize openRes all = o
  obtain ⟨t, e⟩ := o
  simp only
  by_cases he : e = 0
  · subst he
    rw [if_neg (by simp)]
    by_cases h4 : t.size < 4
    · rw [if_pos h4, decide_eq_true (by omega), failF_true, failF_ne (by omega), dF0_ne (by omega)]
    · rw [if_neg h4, decide_eq_false (by omega), failF_false]
      by_cases hm : t.extract 0 4 = ⟨#[68, 87, 76, 1]⟩
      · have hc : cutP t magic = (t.extract 4 t.size, true) := if_pos ⟨by show 4 ≤ _; omega, hm⟩
        rw [hc, if_neg (fun h => h hm)]
        simp only [Bool.not_true]
        rw [failF_false]
        exact dF0_ref _
      · have hc : cutP t magic = (t, false) := if_neg (fun h => hm h.2)
        rw [hc, if_pos hm]
        simp only [Bool.not_false]
        rw [failF_true, dF0_ne (by omega)]
  · rw [if_pos he, failF_ne he, failF_ne he, dF0_ne he]
theorem text_drop (a b : ByteArray) : (a ++ b).extract a.size (a ++ b).size = b := str_ext (by rw [extract_drop]; simp)
theorem get_text {m : Nat} (h : m ≤ 9223372036854775807) (r : ByteArray) : get (encStr m ++ r).data.toList = (m, (encStr m).size, 0) := by
  have := get_enc h r.data.toList
  have e : (encStr (m : Int) ++ r).data.toList = enc m ++ r.data.toList := by rw [ByteArray.data_append, Array.toList_append]; simp [encStr]
  rw [e, this]
  rfl
theorem refT_step {k : Nat} {a b d n : Int} {m : Nat} {r : ByteArray} (h : m ≤ 9223372036854775807) (hb : ¬ badR (3 - k) m b = true) (hc : ¬ (3 - k = 3 ∧ 1048576 < (m : Int))) :
    refT (k + 1) a b d n (encStr m ++ r) = refT k (if 3 - k = 0 then m else a) (if 3 - k = 1 then m else b) (if 3 - k = 2 then m else d) (if 3 - k = 3 then m else n) r := by
  rw [refT_on (get_text h r) hb hc, text_drop]

theorem has_range {s i : Int} (h : hasF s i = true) : 0 ≤ i ∧ i < 48 := by
  unfold hasF at h
  simp only [decide_eq_true_eq] at h
  omega
theorem open_back (all : ByteArray) : (openRes all).2 = 0 → sealed (openRes all).1 = all := by
  unfold openRes
  by_cases h4 : all.size < 4
  · rw [if_pos h4]; intro h; simp at h
  · rw [if_neg h4]
    by_cases hy : sumStr (SealM.of (all.data.toList.take (all.size - 4))) = all.extract (all.size - 4) all.size
    · rw [if_pos hy]; intro _; exact (sealed_iff all (by omega)).2 hy
    · rw [if_neg hy]; intro h; simp at h
/-- What is written is read as it was. -/
theorem dec_enc (x : Let) (h : x.Wf) (hr : rightF x = true) : decR (sealed (plainF x)) = (x, 0) := by
  have hp := right_parts hr
  obtain ⟨ep, fr, co, body⟩ := x
  simp only at hp
  have h1 := h.e1
  have h5 := h.c0
  simp only at h1 h5
  have hhas : hasF co fr = true := by unfold rightF at hr; simp only [Bool.and_eq_true] at hr; exact hr.2.1
  obtain ⟨e', rfl⟩ := Int.eq_ofNat_of_zero_le hp.1
  obtain ⟨f', rfl⟩ := Int.eq_ofNat_of_zero_le hp.2.1
  obtain ⟨c', rfl⟩ := Int.eq_ofNat_of_zero_le h5
  unfold decR
  rw [open_sealed]
  have hpl : plainF ⟨(e' : Int), (f' : Int), (c' : Int), body⟩ = (⟨#[68, 87, 76, 1]⟩ : ByteArray) ++ (encStr e' ++ (encStr f' ++ (encStr c' ++ (encStr body.size ++ body)))) := by
    rw [← plain_join]; exact str_ext (by simp)
  have hs4 : ¬ (plainF ⟨(e' : Int), (f' : Int), (c' : Int), body⟩).size < 4 := by
    rw [hpl, ByteArray.size_append, show (⟨#[68, 87, 76, 1]⟩ : ByteArray).size = 4 from rfl]; omega
  have hm : (plainF ⟨(e' : Int), (f' : Int), (c' : Int), body⟩).extract 0 4 = ⟨#[68, 87, 76, 1]⟩ := by
    rw [hpl]; exact str_ext (by rw [extract_take]; simp)
  have hd : (plainF ⟨(e' : Int), (f' : Int), (c' : Int), body⟩).extract 4 (plainF ⟨(e' : Int), (f' : Int), (c' : Int), body⟩).size = encStr e' ++ (encStr f' ++ (encStr c' ++ (encStr body.size ++ body))) := by
    rw [hpl]; exact text_drop _ _
  dsimp only
  rw [if_neg (by simp), if_neg hs4, if_neg (fun k => k hm), hd]
  rw [refT_step (k := 3) (by omega) (by simp [badR]) (by simp), refT_step (k := 2) (by omega) (by simp [badR]; omega) (by simp), refT_step (k := 1) (by omega) (by simp [badR, hhas]; omega) (by simp), refT_step (k := 0) (by omega) (by simp [badR]) (by simp; omega)]
  simp [refT]

theorem get_split {t : ByteArray} {v sz : Nat} (h : get t.data.toList = (v, sz, 0)) : t = encStr v ++ t.extract sz t.size := by
  obtain ⟨h1, h2⟩ := get_back h
  refine str_ext ?_
  rw [ByteArray.data_append, Array.toList_append, extract_drop]
  have : (encStr (v : Int)).data.toList = t.data.toList.take sz := by rw [h2]; simp [encStr]
  rw [this, List.take_append_drop]

/-- Whatever is read is what was written. -/
theorem refT_back {k : Nat} {a b d n : Int} {t : ByteArray} {x : Let} (h : refT (k + 1) a b d n t = (x, 0)) : ∃ v sz, get t.data.toList = (v, sz, 0) ∧ badR (3 - k) v b = false ∧ ¬ (3 - k = 3 ∧ 1048576 < (v : Int)) ∧
    refT k (if 3 - k = 0 then v else a) (if 3 - k = 1 then v else b) (if 3 - k = 2 then v else d) (if 3 - k = 3 then v else n) (t.extract sz t.size) = (x, 0) := by
  obtain ⟨v, sz, e, hg⟩ : ∃ v sz e, get t.data.toList = (v, sz, e) := ⟨_, _, _, rfl⟩
  by_cases he : e = 0
  · subst he
    by_cases hb : badR (3 - k) v b = true
    · rw [refT_bad hg hb] at h; simp at h
    · by_cases hc : 3 - k = 3 ∧ 1048576 < (v : Int)
      · have hk : k = 0 := by omega
        subst hk
        rw [refT_cap hg hc.2] at h; simp at h
      · rw [refT_on hg hb hc] at h
        exact ⟨v, sz, hg, by simpa using hb, hc, h⟩
  · rw [refT_err hg he] at h
    simp only [Prod.mk.injEq] at h
    omega
theorem dec_back (all : ByteArray) (x : Let) (hs : all.size ≤ 1000000000) (h : decR all = (x, 0)) : x.Wf ∧ rightF x = true ∧ sealed (plainF x) = all := by
  unfold decR at h
  have hop := open_back all
  generalize openRes all = o at h hop
  obtain ⟨t, e⟩ := o
  simp only at h hop
  by_cases he : e = 0
  · subst he
    rw [if_neg (by simp)] at h
    by_cases h4 : t.size < 4
    · rw [if_pos h4] at h; simp at h
    · rw [if_neg h4] at h
      by_cases hm : t.extract 0 4 = ⟨#[68, 87, 76, 1]⟩
      · rw [if_neg (fun k => k hm)] at h
        have ht : t = (⟨#[68, 87, 76, 1]⟩ : ByteArray) ++ t.extract 4 t.size := by
          refine str_ext ?_
          rw [ByteArray.data_append, Array.toList_append, extract_drop, ← hm, extract_take, List.take_append_drop]
        have hall := hop rfl
        clear hop hm h4
        generalize t.extract 4 t.size = u0 at h ht
        obtain ⟨v0, z0, g0, _, _, h⟩ := refT_back (k := 3) h
        have s0 := get_split g0
        have l0 := (get_facts u0.data.toList).1
        rw [g0] at l0
        generalize u0.extract z0 u0.size = u1 at h s0
        obtain ⟨v1, z1, g1, b1, _, h⟩ := refT_back (k := 2) h
        have s1 := get_split g1
        generalize u1.extract z1 u1.size = u2 at h s1
        obtain ⟨v2, z2, g2, b2, _, h⟩ := refT_back (k := 1) h
        have s2 := get_split g2
        generalize u2.extract z2 u2.size = u3 at h s2
        obtain ⟨v3, z3, g3, _, c3, h⟩ := refT_back (k := 0) h
        have s3 := get_split g3
        generalize u3.extract z3 u3.size = u4 at h s3
        simp only [show (3 : Nat) - 3 = 0 from rfl, show (3 : Nat) - 2 = 1 from rfl, show (3 : Nat) - 1 = 2 from rfl, show (3 : Nat) - 0 = 3 from rfl, show ¬ (0 : Nat) = 1 from by omega, show ¬ (0 : Nat) = 2 from by omega, show ¬ (0 : Nat) = 3 from by omega,
          show ¬ (1 : Nat) = 0 from by omega, show ¬ (1 : Nat) = 2 from by omega, show ¬ (1 : Nat) = 3 from by omega, show ¬ (2 : Nat) = 0 from by omega, show ¬ (2 : Nat) = 1 from by omega, show ¬ (2 : Nat) = 3 from by omega, show ¬ (3 : Nat) = 0 from by omega,
          show ¬ (3 : Nat) = 1 from by omega, show ¬ (3 : Nat) = 2 from by omega, if_true, if_false, true_and] at h b1 b2 c3
        simp only [refT] at h
        by_cases q1 : (u4.size : Int) < v3
        · rw [if_pos q1] at h; simp at h
        · rw [if_neg q1] at h
          by_cases q2 : (v3 : Int) < (u4.size : Int)
          · rw [if_pos q2] at h; simp at h
          · rw [if_neg q2] at h
            simp only [Prod.mk.injEq, and_true] at h
            have e3 : v3 = u4.size := by omega
            simp only [badR, show ¬ (1 : Nat) = 2 from by omega, show ¬ (2 : Nat) = 1 from by omega, decide_false, decide_true, Bool.false_and, Bool.true_and, Bool.or_false, Bool.false_or, Bool.not_eq_false', Bool.or_eq_false_iff, decide_eq_true_eq] at b1 b2
            obtain ⟨b2a, b2b⟩ := b2
            have hsz : u4.size ≤ all.size := by
              rw [← hall, sealed_size, ht, s0, s1, s2, s3]
              simp only [ByteArray.size_append]
              omega
            subst h
            refine ⟨⟨by simp only; omega, by simp only; omega, by simp only; omega, by simp only; omega, by simp only; omega, by simp only; omega, by simp only; omega⟩, ?_, ?_⟩
            · unfold rightF
              simp only [b2b, decide_eq_true b2a, Bool.true_and, Bool.and_eq_true, decide_eq_true_eq]
              omega
            · rw [← hall]
              congr 1
              rw [← plain_join, ht, s0, s1, s2, s3, e3]
              exact str_ext (by simp)
      · rw [if_pos hm] at h; simp at h
  · rw [if_pos he] at h
    simp only [Prod.mk.injEq] at h
    exact absurd h.2 he
end Go.Proofs.Ytclndbaafibaiaa

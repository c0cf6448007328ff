/- Part 20 of the proof: texts joined by this repo's tools/merge2.py (VaryK VaryL VaryH VaryC SealL SealT QTail Bld). By the prover of this repo. -/
import Derived.Test.YteebghoijaaakaaGreatM17
import Derived.Test.YteebghoijaaakaaGreatM2
import Derived.Test.YteebghoijaaakaaGreatM18
import Derived.Test.YteebghoijaaakaaGreatM1
import Derived.StillTail
import Derived.Test.YteebghoijaaakaaGreatM3
import Derived.Lib.Builder
import Derived.Lib.AppendStr
import Derived.Lib.UnsafeStr
import Derived.Laws.Externs
set_option linter.unusedVariables false
set_option linter.unusedSimpArgs false
/- The law VaryGets, walked. By the prover of this repo. -/
namespace Go.Proofs.YteebghoijaaakaaGreat
open Go.RowKit
open VaryM

theorem allGo_len : ∀ (f : Nat) (acc : List Int) (l : List UInt8), l.length ≤ f → (allGo f acc l).1.length ≤ acc.length + l.length
  | 0, acc, l, _ => by simp [allGo]
  | f + 1, acc, l, h => by
    simp only [allGo]
    split
    · simp
    · split
      · simp
      · rename_i h1 h2
        have hf := (get_facts l).2.1 (by simpa using h2)
        have := allGo_len f (acc ++ [((get l).1 : Int)]) (l.drop (get l).2.1) (by simp; omega)
        simp at this
        omega
theorem all_len (l : List UInt8) : (all l).1.length ≤ l.length := by
  have := allGo_len l.length [] l (Nat.le_refl _)
  simpa [all] using this

/-- An owned slice of numbers, opened. -/
theorem own_iv {w : World} {base : Nat} {v : Value} {l : List Int} (h : w.ownsRow base 3 1 v l.length (l.map iv)) : ∃ A c, v = .slice A l.length c ∧ l.length ≤ c ∧ c ≤ maxLen ∧ Rd w A l.length 1 (fun i => .int .i64 (l.getD i 0)) := by
  obtain ⟨A, c, rfl, _, h1, h2⟩ := own_form h
  refine ⟨A, c, rfl, h1, h2, (own_rd h).congr fun i hi => ?_⟩
  have hi2 : i < l.length := by omega
  simp [hi2, iv]

end Go.Proofs.YteebghoijaaakaaGreat
/- The law VaryPuts, walked. By the prover of this repo. -/
namespace Go.Proofs.YteebghoijaaakaaGreat
open Go.RowKit
open VaryM

theorem getD_le {z : List Int} (b : ∀ x ∈ z, (Lit.int .i64 x).wf = true) (i : Nat) : -9223372036854775808 ≤ z.getD i 0 ∧ z.getD i 0 ≤ 9223372036854775807 := by
  by_cases h : i < z.length
  · have : z.getD i 0 = z[i] := by simp [h]
    rw [this]
    have := i64_bounds (b _ (List.getElem_mem h))
    omega
  · have : z.getD i 0 = 0 := by simp [h]
    rw [this]
    omega

end Go.Proofs.YteebghoijaaakaaGreat
/- The law VaryRises, walked. By the prover of this repo. -/
namespace Go.Proofs.YteebghoijaaakaaGreat
open Go.RowKit
open VaryM

theorem fallGo_len (l : List UInt8) : ∀ (k : Nat) (acc : List Int) (last at_ : Nat), acc.length ≤ at_ → at_ ≤ l.length → (fallGo l k acc last at_).1.length ≤ l.length
  | 0, acc, _, at_, h1, h2 => by simp only [fallGo]; omega
  | k + 1, acc, last, at_, h1, h2 => by
    simp only [fallGo]
    split
    · simp
    · split
      · simp
      · rename_i h3 h4
        have hf := (get_facts (l.drop at_)).2.1 (by simpa using h3)
        simp only [List.length_drop] at hf
        exact fallGo_len l k _ _ _ (by simp; omega) (by omega)
theorem fall_len (l : List UInt8) (most : Int) : (fall l most).1.length ≤ l.length := by
  unfold fall
  split
  · simp
  · split
    · simp
    · rename_i h3 h4
      have hf := (get_facts l).2.1 (by simpa using h3)
      exact fallGo_len l _ _ _ _ (by simp) (by omega)

end Go.Proofs.YteebghoijaaakaaGreat
/- What the law VaryBack wants of the walks' answers, as facts. By the prover of this repo. -/
namespace Go.Proofs.YteebghoijaaakaaGreat
open Go.RowKit
open VaryM

/-- The one before the i-th of a list; a number before the first. -/
def prevL (last : Int) (L : List Int) : Nat → Int | 0 => last | j + 1 => L.getD j 0
theorem lastF_list (L : List Int) (i : Nat) : lastF (fun i => L.getD i 0) i = prevL 0 L i := by cases i <;> rfl
theorem prev_cons (last x : Int) (L : List Int) (j : Nat) : prevL last (x :: L) (j + 1) = prevL x L j := by cases j <;> simp [prevL]

theorem rises_iff : ∀ (L : List Int) (last : Int), Rises last L ↔ ∀ i, i < L.length → prevL last L i < L.getD i 0
  | [], _ => by simp [Rises]
  | x :: L, last => by
    rw [Rises, rises_iff L x]
    constructor
    · rintro ⟨h1, h2⟩ i hi
      cases i with
      | zero => simpa [prevL] using h1
      | succ j =>
        rw [prev_cons]
        have := h2 j (by simpa using hi)
        simpa using this
    · intro h
      refine ⟨by simpa [prevL] using h 0 (by simp), fun j hj => ?_⟩
      have := h (j + 1) (by simpa using hj)
      rw [prev_cons] at this
      simpa using this
theorem rise_map : ∀ (L : List Int) (last : Int), (List.range L.length).map (fun i => L.getD i 0 - prevL last L i) = rise last L
  | [], _ => rfl
  | x :: L, last => by
    rw [List.length_cons, List.range_succ_eq_map, List.map_cons, List.map_map, rise, ← rise_map L x]
    congr 1
    apply List.map_congr_left
    intro i _
    show (x :: L).getD (i + 1) 0 - prevL last (x :: L) (i + 1) = _
    rw [prev_cons]
    simp

theorem encs_rise (L : List Int) : encs (gapF fun i => L.getD i 0) L.length = encL (rise 0 L) := by
  rw [encs_list, ← rise_map L 0]
  congr 1

theorem risF_list {L : List Int} (h : Rises 0 L) : risF (fun i => L.getD i 0) L.length = (⟨(enc L.length ++ encL (rise 0 L)).toArray⟩, 0) := by
  rw [risF_all (fun i hi => by rw [lastF_list]; exact (rises_iff L 0).1 h i hi)]
  unfold risT
  rw [encs_rise]
theorem risF_list_no {L : List Int} (h : ¬ Rises 0 L) : risF (fun i => L.getD i 0) L.length = (⟨#[]⟩, 10) := by
  unfold risF
  refine if_neg fun h2 => h ((rises_iff L 0).2 fun i hi => ?_)
  have := h2 i hi
  rwa [lastF_list] at this

theorem encL_len : ∀ (L : List Int), (∀ x ∈ L, x ≤ 9223372036854775807) → (encL L).length ≤ 9 * L.length
  | [], _ => by simp [encL]
  | x :: L, h => by
    have h1 := h x (by simp)
    have h2 := enc_len9 (n := x.toNat) (by omega)
    have h3 := encL_len L (fun y hy => h y (by simp [hy]))
    have e : encL (x :: L) = enc x.toNat ++ encL L := by simp [encL]
    rw [e, List.length_append, List.length_cons]
    omega
theorem rise_le : ∀ (L : List Int) (last : Int), 0 ≤ last → Rises last L → (∀ x ∈ L, x ≤ 9223372036854775807) → ∀ y ∈ rise last L, y ≤ 9223372036854775807
  | [], _, _, _, _ => by simp [rise]
  | x :: L, last, h0, hr, h => by
    intro y hy
    have h1 := h x (by simp)
    rcases List.mem_cons.1 hy with rfl | hy
    · omega
    · exact rise_le L x (by have := hr.1; omega) hr.2 (fun z hz => h z (by simp [hz])) y hy

/-- What Put answers, and what All makes of it. -/
theorem put_case (z : List Int) (hz : ∀ x ∈ z, x ≤ 9223372036854775807) (hn : z.length ≤ 200) :
    putF (fun i => z.getD i 0) z.length = (⟨#[]⟩, 2) ∨ ∃ t : ByteArray, putF (fun i => z.getD i 0) z.length = (t, 0) ∧ t.size ≤ 100000 ∧ all t.data.toList = (z, 0) := by
  have hle : ∀ i, i < z.length → z.getD i 0 ≤ 9223372036854775807 := fun i hi => by simp [hi]; exact hz _ (List.getElem_mem hi)
  by_cases h : ∀ i, i < z.length → 0 ≤ z.getD i 0
  · refine .inr ⟨_, putF_all h, ?_, ?_⟩
    · have := encs_len (f := fun i => z.getD i 0) z.length hle
      rw [encsStr_size]; omega
    · show all (encs _ _) = _
      rw [all_encs (fun i hi => ⟨h i hi, hle i hi⟩)]
      have := range_getD z 0 (id : Int → Int)
      simpa using this
  · exact .inl (if_neg h)
/-- What Rises answers, and what Falls makes of it, whatever stands behind. -/
theorem rises_case (z : List Int) (s : ByteArray) (hz : ∀ x ∈ z, x ≤ 9223372036854775807) (hn : z.length ≤ 200) (hs : s.size ≤ 1000) :
    risF (fun i => z.getD i 0) z.length = (⟨#[]⟩, 10) ∨ ∃ t : ByteArray, risF (fun i => z.getD i 0) z.length = (t, 0) ∧ t.size ≤ 10000 ∧ fall (t ++ s).data.toList (z.length : Int) = (z, (t.size : Int), 0) := by
  by_cases h : Rises 0 z
  · refine .inr ⟨_, risF_list h, ?_, ?_⟩
    · show (enc z.length ++ encL (rise 0 z)).length ≤ _
      have h1 := enc_len9 (n := z.length) (by omega)
      have h2 := encL_len _ (rise_le z 0 (by omega) h hz)
      rw [rise_len] at h2
      rw [List.length_append]
      omega
    · have := fall_rise s.data.toList (by omega) h hz
      have e : (((⟨(enc z.length ++ encL (rise 0 z)).toArray⟩ : ByteArray) ++ s).data.toList) = enc z.length ++ encL (rise 0 z) ++ s.data.toList := by simp
      rw [e]
      exact this
  · exact .inl (risF_list_no h)
/-- What is read begins a text just so. -/
theorem get_case (s : ByteArray) (n sz : Nat) (h : get s.data.toList = (n, sz, 0)) : sz = (enc n).length ∧ s.extract 0 sz = encStr n := by
  obtain ⟨h1, h2⟩ := get_back h
  refine ⟨h1, str_ext ?_⟩
  rw [extract_take, h2]
  rfl
theorem falls_case (s : ByteArray) (L : List Int) (z : Int) (h : fall s.data.toList 1000 = (L, z, 0)) :
    ∃ t : ByteArray, risF (fun i => L.getD i 0) L.length = (t, 0) ∧ z = (t.size : Int) ∧ s.extract 0 t.size = t ∧ t.size ≤ s.size ∧ ∀ x ∈ L, x ≤ 9223372036854775807 := by
  obtain ⟨h1, h2, h3, h4, h5⟩ := fall_back h
  refine ⟨_, risF_list h1, h3, str_ext ?_, ?_, h2⟩
  · rw [extract_take]; exact h4
  · show (enc L.length ++ encL (rise 0 L)).length ≤ _
    rw [list_size] at h5
    exact h5
end Go.Proofs.YteebghoijaaakaaGreat
/- The walks of the laws of layer 23: SealOpens, SealJoins. By the prover of this repo. -/
namespace Go.Proofs.YteebghoijaaakaaGreat
open Go.RowKit
open SealM

theorem data_append (a b : ByteArray) : (a ++ b).data.toList = a.data.toList ++ b.data.toList := by rw [ByteArray.data_append, Array.toList_append]
theorem length_data (a : ByteArray) : a.data.toList.length = a.size := by rw [Array.length_toList]; rfl

end Go.Proofs.YteebghoijaaakaaGreat
/- The walk of the law SealTells. By the prover of this repo. -/
namespace Go.Proofs.YteebghoijaaakaaGreat
open Go.RowKit
open SealM

/-- The block g begins with these bytes, none of them frozen. -/
def Bts (w : World) (g : Nat) (l : List UInt8) : Prop := g < w.heap.size ∧ ∀ j (h : j < l.length), w.cell? ⟨g, j, none⟩ = some (.int .u8 (l[j].toNat : Int)) ∧ w.frozen? ⟨g, j, none⟩ = false
theorem Bts.made (w : World) (s : ByteArray) (cap : Nat) (e : TypeId) :
    Bts (w.drew.alloc (.cells (bytesRow s cap) e ((bytesRow s cap).size, (bytesRow s cap).size + 1))) w.heap.size s.data.toList := by
  have hsz : s.data.size ≤ (bytesRow s cap).size := by simp [bytesRow]
  refine ⟨by simp, fun j h => ?_⟩
  have hj : j < s.data.size := by simpa using h
  have h1 := World.cell?_alloc_mark w.drew (bytesRow s cap) e ((bytesRow s cap).size, (bytesRow s cap).size + 1) j
  have h2 := World.frozen?_alloc_mark w.drew (bytesRow s cap) e (bytesRow s cap).size ((bytesRow s cap).size + 1) j
  refine ⟨?_, ?_⟩
  · have h3 : (w.drew.alloc (.cells (bytesRow s cap) e ((bytesRow s cap).size, (bytesRow s cap).size + 1))).cell? ⟨w.heap.size, j, none⟩ = (bytesRow s cap)[j]? := h1
    rw [h3, bytesRow_at s cap j hj]
    simp
  · have h3 : (w.drew.alloc (.cells (bytesRow s cap) e ((bytesRow s cap).size, (bytesRow s cap).size + 1))).frozen? ⟨w.heap.size, j, none⟩ = (decide ((bytesRow s cap).size ≤ j) && decide (j < (bytesRow s cap).size + 1)) := h2
    rw [h3, decide_eq_false (by omega)]
    rfl
theorem Bts.set {w : World} {g : Nat} {l : List UInt8} (h : Bts w g l) (i : Nat) (c : UInt8) : Bts (w.setCell ⟨g, i, none⟩ (.int .u8 (c.toNat : Int))) g (l.set i c) := by
  refine ⟨by simpa [World.setCell] using h.1, fun j hj => ?_⟩
  have hj2 : j < l.length := by simpa using hj
  obtain ⟨h1, h2⟩ := h.2 j hj2
  refine ⟨?_, ?_⟩
  · by_cases e : i = j
    · subst e
      rw [World.cell?_setCell_same _ _ _ h1, List.getElem_set_self]
    · rw [World.cell?_setCell_other _ _ _ _ (fun k => e (by injection k)), h1, List.getElem_set_ne e]
  · rw [← h2]
    exact World.frozen?_setCell _ _ _ _
theorem Bts.kept {w w' : World} {g : Nat} {l : List UInt8} (h : Bts w g l) (hb : Below w.heap.size w w') : Bts w' g l :=
  ⟨by have := hb.size; have := h.1; omega, fun j hj => by
    obtain ⟨h1, h2⟩ := h.2 j hj
    exact ⟨(hb.cell (p := ⟨g, j, none⟩) h.1).trans h1, (hb.frozen (p := ⟨g, j, none⟩) h.1).trans h2⟩⟩
theorem Bts.back {P : Program} {w : World} {g n cap : Nat} {l : List UInt8} (h : Bts w g l) (hn : l.length = n) (src dst e : TypeId) (hs : P.underlying src = some (.slice e)) (he : P.underlying e = some (.int .u8)) (hd : P.underlying dst = some .string) :
    (convert src dst (.slice (some ⟨g, 0, none⟩) n cap)).run P w = .ok (.string ⟨l.toArray⟩) w := by
  subst hn
  refine run_convert_bytes_back w src dst e ⟨g, 0, none⟩ cap l hs he hd fun j hj => ?_
  have hadd : (⟨g, 0, none⟩ : Addr).add j = ⟨g, j, none⟩ := by unfold Addr.add; split <;> simp_all
  rw [hadd]
  exact (h.2 j hj).1

theorem openRes_iff (x : ByteArray) : (sumStr (SealM.of (x.data.toList.take (x.size - 4))) = x.extract (x.size - 4) x.size) ↔ OpensL x.data.toList := by
  unfold OpensL
  have e : x.data.toList.length = x.size := length_data x
  rw [e]
  constructor
  · intro h
    have h2 := congrArg (fun b : ByteArray => b.data.toList) h
    simp only [extract_drop] at h2
    exact h2
  · intro h
    apply str_ext
    rw [extract_drop]
    exact h
theorem openRes_yes {x : ByteArray} (hx : 4 ≤ x.size) (h : OpensL x.data.toList) : openRes x = (x.extract 0 (x.size - 4), 0) := by
  unfold openRes
  rw [if_neg (by omega), if_pos ((openRes_iff x).2 h)]
theorem openRes_no {x : ByteArray} (hx : 4 ≤ x.size) (h : ¬ OpensL x.data.toList) : openRes x = (⟨#[]⟩, 12) := by
  unfold openRes
  rw [if_neg (by omega), if_neg (fun k => h ((openRes_iff x).1 k))]
theorem sealed_list (s : ByteArray) : (sealed s).data.toList = sealL s.data.toList := data_append _ _
theorem sealed_size (s : ByteArray) : (sealed s).size = s.size + 4 := by unfold sealed; rw [ByteArray.size_append, sumStr_size]
theorem open_sealed (s : ByteArray) : openRes (sealed s) = (s, 0) := by
  rw [openRes_yes (by rw [sealed_size]; omega) (by rw [sealed_list]; exact opens_seal _)]
  congr 1
  apply str_ext
  rw [extract_take, sealed_list, sealed_size, show s.size + 4 - 4 = s.size by omega, ← length_data]
  unfold sealL
  exact List.take_left
end Go.Proofs.YteebghoijaaakaaGreat
/- A region that draws its order, whose head only reads and calls what only makes memory, and whose tail goes in one order: one walk over all later worlds. By the prover of this repo. -/
namespace Go.Proofs.YteebghoijaaakaaGreat
open Go.RowKit

section
variable {P : Program} {ops : Array Oper} {md : Region.Mode} {C : World → Prop}
/-- Each of the head, but for the first m, is waited for by a later one. -/
def sinkFrom (md : Region.Mode) (ops : Array Oper) (m n : Nat) : Bool := (List.range n).all fun i => decide (i < m) || (List.range (n + 1)).any fun j => decide (i < j) && Region.waitsFor md ops j i
theorem tail_waits1 {m n : Nat} {listed : Array Bool} (hs : sinkFrom md ops m n = true) (hc : Region.chainB md ops n = true) (hn : n < ops.size) (inv : HeadInv md ops n listed) (hlow : ∀ i, i < m → listed.getD i true = true) :
    ∀ (d i : Nat), n - i = d → i < n → listed.getD i true = false → ∀ t, n ≤ t → t ∉ Region.ready md ops listed := by
  intro d
  induction d using Nat.strongRecOn with
  | _ d ih =>
    intro i hd hi hun t ht hr
    obtain ⟨_, ot, hot, hall⟩ := mem_ready.1 hr
    have htlt : t < ops.size := (Array.getElem?_eq_some_iff.1 hot).1
    by_cases htn : t = n
    · subst htn
      have h1 := List.all_eq_true.1 hs i (List.mem_range.2 hi)
      rcases Bool.or_eq_true_iff.1 h1 with h1 | h1
      · have := hlow i (of_decide_eq_true h1)
        rw [hun] at this; cases this
      obtain ⟨j, hj, hj2⟩ := List.any_eq_true.1 h1
      simp only [Bool.and_eq_true, decide_eq_true_eq] at hj2
      obtain ⟨oj, hoj, e, he, hb, hon⟩ := Region.waitsFor_spec hj2.2
      have hjle : j ≤ t := by have := List.mem_range.1 hj; omega
      by_cases hjt : j = t
      · subst hjt
        have : oj = ot := Option.some.inj (hoj.symm.trans hot)
        subst this
        have h2 := hall e he hb
        rw [hon, getD_both hun] at h2
        cases h2
      · cases hl : listed.getD j false with
        | true =>
          have h2 := inv.closed j oj hoj hl e he hb
          rw [hon, getD_both hun] at h2
          cases h2
        | false =>
          have hjs : j < listed.size := by rw [inv.size]; omega
          exact ih (t - j) (by omega) j rfl (by omega) (getD_in hjs hl) t (Nat.le_refl _) hr
    · have h1 := List.all_eq_true.1 hc t (List.mem_range.2 htlt)
      simp only [Bool.or_eq_true, decide_eq_true_eq] at h1
      rcases h1 with h1 | h1
      · omega
      · obtain ⟨o', ho', e, he, hb, hon⟩ := Region.waitsFor_spec h1
        have : o' = ot := Option.some.inj (ho'.symm.trans hot)
        subst this
        have h2 := hall e he hb
        rw [hon, getD_both (inv.tail (t - 1) (by omega) (by omega))] at h2
        cases h2
/-- Whatever order the head takes: L then. -/
def anyHead (P : Program) (md : Region.Mode) (ops : Array Oper) (C : World → Prop) (n : Nat) (L : Array Bool → Act → Prop) : Nat → Array Bool → Act → Prop
  | 0, listed, a => L listed a
  | f + 1, listed, a => Region.ready md ops listed ≠ [] ∧ ∀ i ∈ Region.ready md ops listed, i < n ∧ qOp P ops C i (anyHead P md ops C n L f (listed.setIfInBounds i true)) a
theorem any_of_head {n g : Nat} {L : Array Bool → Act → Prop} {Q' : Exit → Act → World → Prop} (hL : ∀ listed a w, C w → L listed a → wpAny P md ops Q' g listed a w) :
    ∀ (f : Nat) (listed : Array Bool) (a : Act) (w : World), C w → anyHead P md ops C n L f listed a → wpAny P md ops Q' (f + g) listed a w
  | 0, listed, a, w, hw, h => by rw [Nat.zero_add]; exact hL _ _ _ hw h
  | f + 1, listed, a, w, hw, h => by
    rw [show f + 1 + g = (f + g) + 1 by omega]
    exact ⟨fun h0 => absurd h0 h.1, fun i hi => wpOp_of_qOp hw (fun a' w' hw' h' => any_of_head hL f _ a' w' hw' h') (h.2 i hi).2⟩
theorem getD_low {m i : Nat} {listed : Array Bool} (hlow : ∀ j, j < m → listed.getD j true = true) {q : Nat} (hq : q < m) : (listed.setIfInBounds i true).getD q true = true := by
  by_cases e : i = q
  · subst e
    rcases Nat.lt_or_ge i listed.size with h | h
    · simp [h]
    · simp [h]
  · rw [getD_set_ne true e]; exact hlow q hq
theorem anyHead_first {m n i : Nat} {oi : Oper} {v : Value} {L : Array Bool → Act → Prop} (hi : ops[i]? = some oi) (hsel : ∀ (j : Nat) (o : Oper) cs b, ops[j]? = some o → o.op ≠ .select cs b)
    (hs : sinkFrom md ops m n = true) (hc : Region.chainB md ops n = true) (hn : n < ops.size) (hin : i < n) (hdone : ∀ listed a, L listed a → ∀ j ∈ Region.ready md ops listed, n ≤ j) :
    ∀ (f : Nat) (listed : Array Bool) (a : Act), HeadInv md ops n listed → (∀ j, j < m → listed.getD j true = true) →
      (∀ j oj, ops[j]? = some oj → j ≠ i → listed.getD j true = false → (∀ e ∈ oj.after, Region.binds md e = true → e.on ≠ i) → oi.apart ops oj = true) →
      i ∈ Region.ready md ops listed → YieldsIn P ops C oi v a →
      anyHead P md ops C n L f (listed.setIfInBounds i true) (a.put oi.dst v) → anyHead P md ops C n L (f + 1) listed a := by
  intro f
  induction f with
  | zero =>
    intro listed a inv hlow _ hr hy H
    have hun := (mem_ready.1 hr).1
    refine ⟨fun h => (by rw [h] at hr; cases hr), fun j hj => ?_⟩
    have hjn : j < n := Nat.lt_of_not_le fun h => absurd hj (tail_waits1 hs hc hn inv hlow _ i rfl hin hun j h)
    refine ⟨hjn, ?_⟩
    by_cases hji : j = i
    · subst hji; exact hy.qOp hi H
    · have := hdone _ _ H j (ready_mono hj hji)
      omega
  | succ f ih =>
    intro listed a inv hlow hfree hr hy H
    have hun := (mem_ready.1 hr).1
    refine ⟨fun h => (by rw [h] at hr; cases hr), fun j hj => ?_⟩
    have hjn : j < n := Nat.lt_of_not_le fun h => absurd hj (tail_waits1 hs hc hn inv hlow _ i rfl hin hun j h)
    refine ⟨hjn, ?_⟩
    by_cases hji : j = i
    · subst hji; exact hy.qOp hi H
    · have h1 := (H.2 j (ready_mono hj hji)).2
      obtain ⟨hjun, oj, hoj, hall⟩ := mem_ready.1 hj
      have hnot : ∀ e ∈ oj.after, Region.binds md e = true → e.on ≠ i := fun e he hb heq => by
        have h1 := hall e he hb
        rw [heq, getD_both hun] at h1
        cases h1
      have h2 := qOp_put hoj (hfree j oj hoj hji hjun hnot) (fun cs b => hsel i oi cs b hi) (fun cs b => hsel j oj cs b hoj) hy h1
      have hfree' : ∀ k ok, ops[k]? = some ok → k ≠ i → (listed.setIfInBounds j true).getD k true = false →
          (∀ e ∈ ok.after, Region.binds md e = true → e.on ≠ i) → oi.apart ops ok = true := fun k ok hk hki hun hno => by
        refine hfree k ok hk hki ?_ hno
        by_cases hjk : j = k
        · subst hjk; exact hjun
        · rw [getD_set_ne true hjk] at hun; exact hun
      refine qOp_mono (fun a' h3 => ih (listed.setIfInBounds j true) a' (inv.set hj hjn) (fun q hq => getD_low hlow hq) hfree' (ready_mono hr (Ne.symm hji)) h3.1 ?_) h2
      rw [Array.setIfInBounds_comm _ _ hji]
      exact h3.2
theorem anyHead_lex {m n g : Nat} {Lq : Act → Prop} (hsel : Region.noSelect ops = true) (hs : sinkFrom md ops m n = true) (hc : Region.chainB md ops n = true) (hn : n < ops.size) :
    ∀ (l : List Oper) (k : Nat) (listed : Array Bool) (a : Act), (∀ j, j < l.length → l[j]? = ops[k + j]?) → k + l.length = n → HeadInv md ops n listed → (∀ j, j < m → listed.getD j true = true) →
    Region.lexHead md ops g l.length k listed = true → wpQuiet P ops C Lq l a →
    anyHead P md ops C n (fun listed' a' => Region.seqB md ops g n listed' = true ∧ Lq a') l.length listed a
  | [], k, listed, a, _, hk, _, _, hB, h => by
    have : k = n := by simpa using hk
    subst this
    exact ⟨by simpa [Region.lexHead] using hB, h⟩
  | o :: l, k, listed, a, hl, hk, inv, hlow, hB, h => by
    have h0 : ops[k]? = some o := by simpa using (hl 0 (by simp)).symm
    simp only [List.length_cons, Region.lexHead, Bool.and_eq_true] at hB
    obtain ⟨⟨hr, hf⟩, hB'⟩ := hB
    have hkn : k < n := by simp only [List.length_cons] at hk; omega
    have hr' : k ∈ Region.ready md ops listed := by simpa using hr
    have hst : qOp P ops C k (wpQuiet P ops C Lq l) a := by unfold qOp; simp only [h0]; exact h
    obtain ⟨v, hy, hK⟩ := yieldsIn_of_qOp h0 hst
    exact anyHead_first h0 (Region.noSelect_spec hsel) hs hc hn hkn (fun listed' a' hL => seqB_ready hL.1) l.length listed a inv hlow (Region.free_spec h0 hf) hr' hy
      (anyHead_lex hsel hs hc hn l (k + 1) _ _ (fun j hj => by have := hl (j + 1) (by simp; omega); simpa [Nat.add_assoc, Nat.add_comm 1 j] using this) (by simp only [List.length_cons] at hk; omega) (inv.set hr' hkn) (fun q hq => getD_low hlow hq) hB' hK)
/-- From a state in which the first m have come up. -/
def tailFrom (ops : Array Oper) (m n : Nat) (listed : Array Bool) : Bool :=
  Region.noSelect ops && decide (n < ops.size) && sinkFrom .any ops m n && Region.chainB .any ops n && Region.lexHead .any ops (ops.size - n) (n - m) m listed
theorem any_tail {Q : Exit → Act → World → Prop} {a : Act} {w : World} {l : List Oper} (m n : Nat) (hmn : m ≤ n) {listed : Array Bool} (hB : tailFrom l.toArray m n listed = true) (inv : HeadInv .any l.toArray n listed) (hlow : ∀ j, j < m → listed.getD j true = true) (hC : C w)
    (h : wpQuiet P l.toArray C (fun a' => ∀ w', C w' → wpList P l.toArray Q (l.drop n) a' w') ((l.take n).drop m) a) : wpAny P .any l.toArray Q (l.length - m) listed a w := by
  unfold tailFrom at hB
  simp only [Bool.and_eq_true, decide_eq_true_eq] at hB
  obtain ⟨⟨⟨⟨hsel, hn⟩, hs⟩, hc⟩, hlex⟩ := hB
  have hn' : n < l.length := by simpa using hn
  have htl : ((l.take n).drop m).length = n - m := by simp; omega
  have hdl : (l.drop n).length = l.toArray.size - n := by simp
  have H := anyHead_lex (md := .any) (g := l.toArray.size - n) hsel hs hc hn ((l.take n).drop m) m listed a (fun j hj => by
    have hj' : j < n - m := by rw [htl] at hj; exact hj
    simp [List.getElem?_drop, List.getElem?_take, show m + j < n by omega]) (by rw [htl]; omega) inv hlow (by rw [htl]; exact hlex) h
  have := any_of_head (Q' := Q) (g := l.toArray.size - n) (fun listed a' w' hw' hL => by
    have := wpAny_of_seq (md := .any) (Q' := Q) (l.drop n) n listed a' w' (fun j => by simp [List.getElem?_drop]) (by rw [hdl]; exact hL.1) (hL.2 w' hw')
    rwa [hdl] at this) _ _ _ w hC H
  rw [htl, show n - m + (l.toArray.size - n) = l.length - m by simp; omega] at this
  exact this
theorem inv_none (l : List Oper) (n : Nat) : HeadInv .any l.toArray n (Array.replicate l.toArray.size false) :=
  ⟨by simp, fun j oj _ hl => (by rw [getD_replicate_false] at hl; cases hl), fun t _ ht => getD_in (by simpa using ht) (getD_replicate_false _ _)⟩
end
/-- Over all later worlds: a head in any order, then a tail. -/
theorem wp_later_tail {P : Program} {id : Nat} {Q : Exit → Act → World → Prop} {a : Act} {w : World} {l : List Oper} (n : Nat) (hm : P.follows .mixedOrders = true) (hB : tailFrom l.toArray 0 n (Array.replicate l.toArray.size false) = true)
    (h : wpQuiet P l.toArray (fun w' => ∃ e : Later w.heap.size w, w' = e.val) (fun a' => ∀ w', (∃ e : Later w.heap.size w, w' = e.val) → wpList P l.toArray Q (l.drop n) a' w') (l.take n) a) : (Code.region id l.toArray true).wp P Q a w := by
  refine wp_region_any hm ?_
  have := any_tail (C := fun w' => ∃ e : Later w.heap.size w, w' = e.val) (w := w.drew) 0 n (Nat.zero_le _) hB (inv_none l n) (fun j hj => absurd hj (Nat.not_lt_zero _)) ⟨⟨w.drew, (Below.refl _ _).drew⟩, rfl⟩ h
  simpa using this
/-- .. where the first one is a mere copy that the tail alone waits for. -/
theorem wp_later_tail1 {P : Program} {id : Nat} {Q : Exit → Act → World → Prop} {a : Act} {w : World} {o : Oper} {l : List Oper} (n : Nat) (x : Operand) (v : Value) (hv : a.eval x = v) (ho : o.op = .move x) (hg : o.guard = none) (hm : P.follows .mixedOrders = true) (hn : 1 ≤ n)
    (hB : (tailFrom (o :: l).toArray 1 n ((Array.replicate (o :: l).toArray.size false).setIfInBounds 0 true) && (Region.free .any (o :: l).toArray (Array.replicate (o :: l).toArray.size false) 0 && (Region.ready .any (o :: l).toArray (Array.replicate (o :: l).toArray.size false)).contains 0)) = true)
    (hQ : ∀ c a' w', Q (.panic c) (a'.put o.dst v) w' → Q (.panic c) a' w')
    (h : wpQuiet P (o :: l).toArray (fun w' => ∃ e : Later w.heap.size w, w' = e.val) (fun a' => ∀ w', (∃ e : Later w.heap.size w, w' = e.val) → wpList P (o :: l).toArray Q ((o :: l).drop n) a' w') (((o :: l).take n).drop 1) (a.put o.dst v)) : (Code.region id (o :: l).toArray true).wp P Q a w := by
  subst hv
  refine wp_region_any hm ?_
  simp only [Bool.and_eq_true] at hB
  obtain ⟨hB1, hB2, hB3⟩ := hB
  have hsel : Region.noSelect (o :: l).toArray = true := by
    unfold tailFrom at hB1
    simp only [Bool.and_eq_true] at hB1
    exact hB1.1.1.1.1
  have hr : 0 ∈ Region.ready .any (o :: l).toArray (Array.replicate (o :: l).toArray.size false) := by simpa using hB3
  have e : (o :: l).toArray.size = l.length + 1 := by simp
  have hlow : ∀ j, j < 1 → ((Array.replicate (o :: l).toArray.size false).setIfInBounds 0 true).getD j true = true := fun j hj => by
    have : j = 0 := by omega
    subst this
    simp
  have k := any_tail (C := fun w' => ∃ e : Later w.heap.size w, w' = e.val) (w := w.drew) 1 n hn hB1 ((inv_none (o :: l) n).set hr hn) hlow ⟨⟨w.drew, (Below.refl _ _).drew⟩, rfl⟩ h
  rw [show (o :: l).length - 1 = l.length by simp] at k
  rw [e]
  rw [e] at hB2 hB3 k
  exact wpAny_take (i := 0) (oi := o) (v := a.eval x) (by simp) hsel hB2 hB3 hQ (.inl ⟨by unfold Region.wanted; rw [hg], fun w => by unfold execOp; rw [ho]; rfl⟩) k
end Go.Proofs.YteebghoijaaakaaGreat
/- The walks of strings.Builder's writing methods at this program. By the prover of this repo. -/
namespace Go.Proofs.YteebghoijaaakaaGreat
open Go.RowKit

abbrev IsBld (B b : Nat) (bs : List Value) (w : World) : Prop := Lib.IsBuilder 87 5 B b bs w
abbrev BldAt (B b : Nat) (bs : List Value) (w : World) : Prop := Lib.BuilderAt 87 5 B b (.pointer (some ⟨b, 0, none⟩)) bs w
/-- All blocks but builders and bytes are as they were. -/
structure KeepB (w w' : World) : Prop where
  size : w.heap.size ≤ w'.heap.size
  block : ∀ (k : Nat) (cs : Array Value) (t : TypeId), w.heap[k]? = some (.cells cs t (0, 0)) → t ≠ 87 → t ≠ 5 → w'.heap[k]? = w.heap[k]?
theorem KeepB.refl (w : World) : KeepB w w := ⟨Nat.le_refl _, fun _ _ _ _ _ _ => rfl⟩
theorem KeepB.trans {w w1 w2 : World} (h : KeepB w w1) (k : KeepB w1 w2) : KeepB w w2 :=
  ⟨Nat.le_trans h.size k.size, fun j cs t hj h1 h2 => (k.block j cs t ((h.block j cs t hj h1 h2).trans hj) h1 h2).trans (h.block j cs t hj h1 h2)⟩
theorem KeepB.below {w w1 : World} (h : Below w.heap.size w w1) : KeepB w w1 := ⟨h.size, fun k _ _ hk _ _ => h.block k (Array.getElem?_eq_some_iff.1 hk).1⟩
theorem KeepB.blk {w w1 : World} (h : KeepB w w1) {g : Nat} {t : TypeId} {cs : Array Value} (hb : Blk w g t cs) (h1 : t ≠ 87) (h2 : t ≠ 5) : Blk w1 g t cs := (h.block g cs t hb h1 h2).trans hb
theorem KeepB.row {w w1 : World} (h : KeepB w w1) {base : Nat} {e : TypeId} {size : Nat} {v : Value} {n : Nat} {xs : List Value} (ho : w.ownsRow base e size v n xs) (h1 : e ≠ 87) (h2 : e ≠ 5) : w1.ownsRow base e size v n xs := by
  refine ⟨ho.1, ?_⟩
  rcases ho.2 with k | ⟨g, cap, cur, rfl, hb, hg, rest⟩
  · exact .inl k
  · exact .inr ⟨g, cap, cur, rfl, hb, (h.block g cur e hg h1 h2).trans hg, rest⟩
theorem KeepB.set {w : World} {b o : Nat} {cs : Array Value} (hb : w.heap[b]? = some (.cells cs 87 (0, 0))) (v : Value) : KeepB w (w.setCell ⟨b, o, none⟩ v) :=
  ⟨by simp, fun k cs' t hk h1 _ => Below.heap_setCell w ⟨b, o, none⟩ v k (fun e => by
    have e : k = b := e
    subst e
    rw [hb] at hk
    injection hk with hk
    injection hk with _ ht _
    exact h1 ht.symm)⟩
theorem KeepB.grown {w w1 : World} {base : Nat} {v : Value} {n : Nat} {xs : List Value} (ho : w.ownsRow base 5 1 v n xs) (hg : w.grownBy w1 v.ownBlock) : KeepB w w1 :=
  ⟨hg.size, fun k cs t hk _ h2 => hg.block k (Array.getElem?_eq_some_iff.1 hk).1 (fun e => by
    rcases ho.2 with ⟨rfl, _⟩ | ⟨g, cap, cur, rfl, _, hg2, _⟩
    · cases e
    · have e : g = k := Option.some.inj e.symm
      subst e
      rw [hg2] at hk
      injection hk with hk
      injection hk with _ ht _
      exact h2 ht.symm)⟩
theorem bldSize : (Tryz.prog.info? 87).map (·.size) = some 2 := by kernel_rfl
theorem bldByte : (Tryz.prog.info? 5).map (fun i => (i.zero, i.size, i.bytes)) = some (some (.int .u8 0), 1, 1) := by kernel_rfl
theorem bldLies : liesAt Tryz.prog Tryz.prog.depth 87 (2 / Tryz.prog.cellsOf 87) 0 87 1 = true := by kernel_rfl

set_option maxHeartbeats 1000000 in
set_option maxRecDepth 100000 in
theorem bld_used (b : Nat) (w : World) (h0 : w.cell? ⟨b, 0, none⟩ = some (.pointer (some ⟨b, 0, none⟩))) :
    Calls Tryz.prog 87 #[.pointer (some ⟨b, 0, none⟩)] w fun e w' => e = .returned (.tuple #[]) ∧ w' = w := by
  obtain ⟨j, hj, _⟩ := Option.map_eq_some_iff.1 bldSize
  go_enter Tryz.func87, Tryz.ntmps87
  go_wp2
  rw [Lib.run_neq_ptr_same w _ Tryz.underlying85 hj]
  go_wp2
  go_end0
  exact ⟨rfl, rfl⟩
set_option maxHeartbeats 1000000 in
set_option maxRecDepth 100000 in
theorem bld_fresh (b : Nat) (w : World) (h0 : w.cell? ⟨b, 0, none⟩ = some (.pointer none)) (hsh : w.shape? b = some (87, 2)) (hfz : w.frozen? ⟨b, 0, none⟩ = false) :
    Calls Tryz.prog 87 #[.pointer (some ⟨b, 0, none⟩)] w fun e w' => e = .returned (.tuple #[]) ∧ w' = w.setCell ⟨b, 0, none⟩ (.pointer (some ⟨b, 0, none⟩)) := by
  obtain ⟨j, hj, hjs⟩ := Option.map_eq_some_iff.1 bldSize
  go_enter Tryz.func87, Tryz.ntmps87
  go_wp2
  rw [Lib.run_to_unsafe w ⟨b, 0, none⟩ Tryz.underlying85 Tryz.underlying183 hj (by rw [hjs]; decide) hsh (Nat.zero_lt_succ 1)]
  simp only [Result.andThen]
  rw [Oper.upon_value]
  go_wp2
  rw [run_callFunc_extern Tryz.func131 (by kernel_rfl) (by kernel_rfl) (by kernel_rfl) (e := Extern.AbiNoEscape.same) (by kernel_rfl)]
  rw [Lib.run_noEscape]
  simp only [Result.andThen]
  rw [Oper.upon_value]
  go_wp2
  rw [Lib.run_from_unsafe w ⟨b, 0, none⟩ Tryz.underlying183 Tryz.underlying85 hj hsh bldLies]
  simp only [Result.andThen]
  rw [Oper.upon_value]
  go_wp2
  go_end0
  exact ⟨rfl, rfl⟩
theorem bld_check (B b : Nat) (bs : List Value) (w : World) (h : IsBld B b bs w) :
    Calls Tryz.prog 87 #[.pointer (some ⟨b, 0, none⟩)] w fun e w' => e = .returned (.tuple #[]) ∧ BldAt B b bs w' ∧ Below B w w' ∧ KeepB w w' := by
  rcases h with h | h
  · refine (bld_fresh b w h.cell0 h.shape h.frozen0).mono ?_
    rintro e w' ⟨rfl, rfl⟩
    obtain ⟨hB, v, hbk, hr⟩ := h
    exact ⟨rfl, Lib.BuilderAt.used ⟨hB, v, hbk, hr⟩ _, (Below.refl B w).setCell (p := ⟨b, 0, none⟩) hB _, KeepB.set hbk _⟩
  · refine (bld_used b w h.cell0).mono ?_
    rintro e w' ⟨rfl, rfl⟩
    exact ⟨rfl, h, Below.refl B _, KeepB.refl _⟩
set_option maxHeartbeats 2000000 in
set_option maxRecDepth 100000 in
theorem bld_byte (B b : Nat) (bs : List Value) (c : Int) (w : World) (h : IsBld B b bs w) (hlen : bs.length + 1 ≤ 140737488355328) (hBw : B ≤ w.heap.size) :
    Calls Tryz.prog 46 #[.pointer (some ⟨b, 0, none⟩), .int .u8 c] w fun e w' => e = .returned .nilIface ∧ BldAt B b (bs ++ [.int .u8 c]) w' ∧ Below B w w' ∧ KeepB w w' := by
  obtain ⟨i0, hi, hz0, hz1, hz2⟩ := info_parts bldByte
  have hC := hide (bld_check B b bs w h)
  clear h
  go_enter Tryz.func46, Tryz.ntmps46
  go_wp2_with fail
  refine Calls.mono hC.out ?_
  rintro e w1 ⟨rfl, h1, hb1, hk1⟩
  have hk1 := hide hk1
  obtain ⟨hB, v, hbk, hown, hne⟩ := h1
  have c0 : w1.cell? ⟨b, 0, none⟩ = some (.pointer (some ⟨b, 0, none⟩)) := by rw [Lib.cell_of_heap hbk]; rfl
  have c1 : w1.cell? ⟨b, 1, none⟩ = some v := by rw [Lib.cell_of_heap hbk]; rfl
  go_wp2_with (at_builtin; refine wpList_append_own _ rfl _ _ 71 rfl B 5 i0 (.int .u8 0) 1 1 Tryz.underlying71 hi hz0 hz1 hz2 rfl (by decide) _ _ _ rfl (hown.alloc _) ⟨w1.heap.size, 0, none⟩ 1 1 [.int .u8 c] rfl rfl ?c1 ?c2 ?c3 ?c4 ?c5 ?_)
  case c1 =>
    intro j u hj
    match j, hj with
    | 0, hj => simp at hj; subst hj; simp [Addr.add]
  case c2 => intro u hu; simp at hu; subst hu; rfl
  case c3 => unfold maxLen; omega
  case c4 => omega
  case c5 => have := hb1.size; simp; omega
  intro v' w2 hown' hgrow _
  have hlt : b < w1.heap.size := by
    rcases Nat.lt_or_ge b w1.heap.size with h' | h'
    · exact h'
    · simp [Array.getElem?_eq_none h'] at hbk
  have hb2 : w2.heap[b]? = some (.cells #[.pointer (some ⟨b, 0, none⟩), v] 87 (0, 0)) := by
    rw [hgrow.block b (by simp; omega) (fun e => hne e.symm), Lib.alloc_old w1 _ b hlt]
    exact hbk
  have d0 : w2.cell? ⟨b, 0, none⟩ = some (.pointer (some ⟨b, 0, none⟩)) := by rw [Lib.cell_of_heap hb2]; rfl
  have d1 : w2.cell? ⟨b, 1, none⟩ = some v := by rw [Lib.cell_of_heap hb2]; rfl
  have f1 : w2.frozen? ⟨b, 1, none⟩ = false := Lib.frozen_of_heap hb2 1
  obtain ⟨g, cap, rfl⟩ : ∃ g cap, v' = .slice (some ⟨g, 0, none⟩) (bs.length + 1) cap := by
    rcases hown'.2 with ⟨_, h0⟩ | ⟨g, cap, cur, hv, _⟩
    · omega
    · exact ⟨g, cap, hv⟩
  go_wp2
  go_ret
  refine ⟨rfl, ?_, ?_, ?_⟩
  · exact Lib.BuilderAt.put (T := 87) (e := 5) hB hb2 (bs' := bs ++ [.int .u8 c]) (by simpa using hown') (by decide)
  · exact ((hb1.alloc (by have := hb1.size; omega) _).grown hgrow (by have := hb1.size; simp; omega) (fun k hk => (hown.lt k hk).1)).setCell (p := ⟨b, 1, none⟩) hB _
  · exact ((hk1.out.trans (KeepB.below (balloc0 w1 _))).trans (KeepB.grown (hown.alloc _) hgrow)).trans (KeepB.set hb2 _)
set_option maxHeartbeats 2000000 in
set_option maxRecDepth 100000 in
theorem bld_text (B b : Nat) (bs : List Value) (s : ByteArray) (w : World) (h : IsBld B b bs w) (hlen : bs.length + s.size ≤ 140737488355328) (hBw : B ≤ w.heap.size) :
    Calls Tryz.prog 45 #[.pointer (some ⟨b, 0, none⟩), .string s] w fun e w' => e = .returned (.tuple #[.int .i64 s.size, .nilIface]) ∧ BldAt B b (bs ++ Lib.strCells s) w' ∧ Below B w w' ∧ KeepB w w' := by
  obtain ⟨i0, hi, hz0, hz1, hz2⟩ := info_parts bldByte
  have hC := hide (bld_check B b bs w h)
  clear h
  go_enter Tryz.func45, Tryz.ntmps45
  go_wp2_with fail
  refine Calls.mono hC.out ?_
  rintro e w1 ⟨rfl, h1, hb1, hk1⟩
  have hk1 := hide hk1
  obtain ⟨hB, v, hbk, hown, hne⟩ := h1
  have c0 : w1.cell? ⟨b, 0, none⟩ = some (.pointer (some ⟨b, 0, none⟩)) := by rw [Lib.cell_of_heap hbk]; rfl
  have c1 : w1.cell? ⟨b, 1, none⟩ = some v := by rw [Lib.cell_of_heap hbk]; rfl
  go_wp2_with (at_builtin; refine Lib.wpList_append_own_string _ rfl _ _ 71 9 rfl B 5 i0 Tryz.underlying71 Tryz.underlying9 hi hz0 hz1 hz2 _ _ _ rfl hown s rfl ?c3 ?c4 ?c5 ?_)
  case c3 => unfold maxLen; omega
  case c4 => omega
  case c5 => have := hb1.size; omega
  intro v' w2 hown' hgrow _
  have hlt : b < w1.heap.size := by
    rcases Nat.lt_or_ge b w1.heap.size with h' | h'
    · exact h'
    · simp [Array.getElem?_eq_none h'] at hbk
  have hb2 : w2.heap[b]? = some (.cells #[.pointer (some ⟨b, 0, none⟩), v] 87 (0, 0)) := by
    rw [hgrow.block b hlt (fun e => hne e.symm)]
    exact hbk
  have d0 : w2.cell? ⟨b, 0, none⟩ = some (.pointer (some ⟨b, 0, none⟩)) := by rw [Lib.cell_of_heap hb2]; rfl
  have d1 : w2.cell? ⟨b, 1, none⟩ = some v := by rw [Lib.cell_of_heap hb2]; rfl
  have f1 : w2.frozen? ⟨b, 1, none⟩ = false := Lib.frozen_of_heap hb2 1
  obtain ⟨ao, n', cap, rfl⟩ : ∃ ao n' cap, v' = .slice ao n' cap := by
    rcases hown'.2 with ⟨hv, _⟩ | ⟨g, cap, cur, hv, _⟩
    · exact ⟨_, _, _, hv⟩
    · exact ⟨_, _, _, hv⟩
  go_wp2
  go_ret2
  refine ⟨rfl, ?_, ?_, ?_⟩
  · exact Lib.BuilderAt.put (T := 87) (e := 5) hB hb2 (bs' := bs ++ Lib.strCells s) (by simpa [Lib.strCells_length] using hown') (by decide)
  · exact (hb1.grown hgrow (by have := hb1.size; omega) (fun k hk => (hown.lt k hk).1)).setCell (p := ⟨b, 1, none⟩) hB _
  · exact (hk1.out.trans (KeepB.grown hown hgrow)).trans (KeepB.set hb2 _)
end Go.Proofs.YteebghoijaaakaaGreat

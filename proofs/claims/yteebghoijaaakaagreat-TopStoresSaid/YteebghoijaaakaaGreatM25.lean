/- Part 25 of the proof: texts joined by this repo's tools/merge2.py (Args TopP RecG TopA TopB CwdA StrP CwdB StrA LetterG2 CrewC LetterQ LetBk SamA StrB). By the prover of this repo. -/
import Derived.Test.YteebghoijaaakaaGreatM2
import Derived.Lib.SmallJoins
import Derived.Laws.IdiomArrays
import Derived.SizedLaws
import Derived.Test.YteebghoijaaakaaGreatM23
import Derived.Test.YteebghoijaaakaaGreatM24
import Derived.Test.YteebghoijaaakaaGreatM15
import Derived.Test.YteebghoijaaakaaGreatM4
import Derived.Test.YteebghoijaaakaaGreatM22
import Derived.Test.YteebghoijaaakaaGreatM21
import Derived.Test.YteebghoijaaakaaGreatM17
import Derived.Test.YteebghoijaaakaaGreatM20
import Derived.Test.YteebghoijaaakaaGreatM19
import Derived.Test.YteebghoijaaakaaGreatM14
import Derived.Test.YteebghoijaaakaaGreatM9
import Derived.Laws.StructEq
set_option linter.unusedVariables false
set_option linter.unusedSimpArgs false
/- More arguments, opened: a text with a mark, short rows of numbers; how long a text among them may be. By the prover of this repo. -/
namespace Go.Proofs.YteebghoijaaakaaGreat
open Go.ChangeShapes Go.WideShapes Go.ChangeAt Go.RowKit Go.Joins Go.Deep

section
variable {H : Type} {enc : TypeId × Value → H} {P : Program} {W : World} {b0 base : Nat} {sp : Nat → Bool} {held : Bool} {r : Reach}
theorem array_cells {t e : TypeId} {n : Nat} (ht : P.underlying t = some (.array n e)) {v : Value} (hv : Value.okWide P W r b0 t v) : ∃ cs, v = .agg cs ∧ cs.size = P.cellsOf t := by
  simp only [Value.okWide, ht] at hv
  obtain ⟨cs, h1, h2, _⟩ := hv
  exact ⟨cs, h1, h2⟩
theorem trod_array2 {t e : TypeId} {fuel : Nat} {c0 c1 : Value} {x : DataW H × List MemPlace} (ht : P.underlying t = some (.array 2 e)) (hce : P.cellsOf e = 1)
    (h : DataW.trod enc P W base sp held fuel t [c0, c1] = some x) :
    ∃ y0 y1 n, x = (.agg [y0.1, y1.1], y0.2 ++ y1.2) ∧ DataW.trod enc P W base sp held n e [c0] = some y0 ∧ DataW.trod enc P W base sp held n e [c1] = some y1 := by
  obtain ⟨xs, m, _, rfl, _, hl, hel⟩ := DataW.trod_array ht h
  obtain ⟨y0, y1, rfl⟩ : ∃ y0 y1, xs = [y0, y1] := by
    match xs, hl with
    | [y0, y1], _ => exact ⟨y0, y1, rfl⟩
  have h0 := hel 0 (by omega)
  have h1 := hel 1 (by omega)
  rw [hce] at h0 h1
  simp at h0 h1
  exact ⟨y0, y1, m, by simp, h0, h1⟩
theorem arg_arr2 {t e : TypeId} {k : IntKind} (ht : P.underlying t = some (.array 2 e)) (he : P.underlying e = some (.int k)) (hc : P.cellsOf e = 1) (hC : P.cellsOf t = 2) {v : Value} {d : DataW H} {p : List MemPlace}
    (hv : Value.okWide P W r b0 t v) (h : DataW.Trod enc P W base sp held t v d p) :
    ∃ a b : Int, v = .agg #[.int k a, .int k b] ∧ (Lit.int k a).wf = true ∧ (Lit.int k b).wf = true := by
  obtain ⟨cs, rfl, hsz⟩ := array_cells ht hv
  obtain ⟨c0, c1, rfl⟩ := array2 (hsz.trans hC)
  obtain ⟨fuel, hf⟩ := h
  obtain ⟨y0, y1, m, _, h0, h1⟩ := trod_array2 ht hc hf
  obtain ⟨a, e0, _, wa⟩ := DataW.trod_int he h0
  obtain ⟨b, e1, _, wb⟩ := DataW.trod_int he h1
  simp only [List.cons.injEq, and_true] at e0 e1
  subst e0 e1
  exact ⟨a, b, rfl, wa, wb⟩
theorem arg_arr3 {t e : TypeId} {k : IntKind} (ht : P.underlying t = some (.array 3 e)) (he : P.underlying e = some (.int k)) (hc : P.cellsOf e = 1) (hC : P.cellsOf t = 3) {v : Value} {d : DataW H} {p : List MemPlace}
    (hv : Value.okWide P W r b0 t v) (h : DataW.Trod enc P W base sp held t v d p) :
    ∃ a b c : Int, v = .agg #[.int k a, .int k b, .int k c] ∧ (Lit.int k a).wf = true ∧ (Lit.int k b).wf = true ∧ (Lit.int k c).wf = true := by
  obtain ⟨cs, rfl, hsz⟩ := array_cells ht hv
  obtain ⟨c0, c1, c2, rfl⟩ := array3 (hsz.trans hC)
  obtain ⟨fuel, hf⟩ := h
  obtain ⟨y0, y1, y2, m, _, h0, h1, h2⟩ := trod_array3 ht hc hf
  obtain ⟨a, e0, _, wa⟩ := DataW.trod_int he h0
  obtain ⟨b, e1, _, wb⟩ := DataW.trod_int he h1
  obtain ⟨c, e2, _, wc⟩ := DataW.trod_int he h2
  simp only [List.cons.injEq, and_true] at e0 e1 e2
  subst e0 e1 e2
  exact ⟨a, b, c, rfl, wa, wb, wc⟩
/-- A text with a mark. -/
theorem arg_some {t : TypeId} {f0 f1 : Field} (ht : P.underlying t = some (.struct #[f0, f1])) (h0 : P.underlying f0.type = some .string) (h1 : P.underlying f1.type = some .bool) (hone : oneCellFields P #[f0, f1] = true) (hC : P.cellsOf t = 2) {v : Value} {d : DataW H} {p : List MemPlace}
    (hv : Value.okWide P W r b0 t v) (h : DataW.Trod enc P W base sp held t v d p) :
    ∃ (s : ByteArray) (b : Bool), v = .agg #[.string s, .bool b] ∧ d = .agg [.lit (.string s.data.toList), .lit (.bool b)] ∧ s.size ≤ maxLen := by
  obtain ⟨v0, v1, y0, y1, n, rfl, rfl, rfl, k0, k1⟩ := open_agg2 ht hone hC hv h
  obtain ⟨s, e0, rfl, ws⟩ := DataW.trod_string h0 k0
  obtain ⟨b, e1, rfl⟩ := DataW.trod_bool h1 k1
  simp only [List.cons.injEq, and_true] at e0 e1
  subst e0 e1
  exact ⟨s, b, rfl, rfl, ws⟩
/-- How long a text in a struct is at most. -/
theorem sized_in_struct {ts : List TypeId} {ds : List (DataW H)} (h : (DataW.weightsEach P ts ds).all (· ≤ reachBytes) = true) {j i : Nat} {t u : TypeId} {fs : Array Field} {parts : List (DataW H)} {bytes : List UInt8} (hj : ts[j]? = some t) (hd : ds[j]? = some (.agg parts))
    (hu : P.underlying t = some (.struct fs)) (hf : (fs.toList.map (·.type))[i]? = some u) (hp : parts[i]? = some (.lit (.string bytes))) : bytes.length ≤ 140737488351232 := by
  have h2 : bytes.length ∈ DataW.weights P t (.agg parts) := by
    simp only [DataW.weights, hu]
    exact DataW.weights_mem_each hf hp _ (by simp [DataW.weights])
  have := List.all_eq_true.1 h _ (DataW.weights_mem_each hj hd _ h2)
  have h3 := of_decide_eq_true this
  unfold reachBytes at h3
  exact h3
end
end Go.Proofs.YteebghoijaaakaaGreat
/- Plain facts of the law TopStores: what a call leaves of several digests and their bags. No program's step in sight. By the prover of this repo. -/
namespace Go.Proofs.YteebghoijaaakaaGreat
namespace TopM
open TwigM RollM StoM Go.RowKit

/-- A digest's k, its nodes, the bag that it stands for. -/
abbrev DS := Int × (List Nd × List Nd)
/-- A call: which, on which one, with which other one, a value, a weight. -/
abbrev Hop := Int × Int × Int × Int × Int
/-- A place within so many. -/
def atF (i n : Int) : Int := Int.tmod (Int.tmod i n + n) n
theorem at_rng (i : Int) {n : Int} (h : 1 ≤ n) : 0 ≤ atF i n ∧ atF i n < n := by
  unfold atF
  have h1 := Int.lt_tmod_of_pos i (show 0 < n by omega)
  have h2 : 0 ≤ Int.tmod i n + n := by omega
  have h3 := Int.tmod_nonneg n h2
  have h4 := Int.tmod_lt_of_pos (Int.tmod i n + n) (show 0 < n by omega)
  exact ⟨h3, h4⟩
/-- What a merge leaves of two. -/
def mrgF (L : Int) (s t : DS) : DS :=
  (min s.1 t.1, ((joinF (pressF L (min s.1 t.1) s.2.1).1 (pressF L (min s.1 t.1) t.2.1).1).1, BagM.putAll s.2.2 t.2.2))
/-- What a call leaves of a digest and its bag; t: the other one. -/
def oneF (L : Int) (s t : DS) (h : Hop) : DS :=
  if h.1 = 1 then (s.1, ((pressF L s.1 s.2.1).1, s.2.2))
  else if h.1 = 2 then (if 72057594037927935 < sumL s.2.1 + sumL t.2.1 then s else mrgF L s t)
  else if h.1 = 3 ∨ h.1 = 4 ∨ h.1 = 6 ∨ h.1 = 9 ∨ h.1 = 5 then s
  else if h.1 = 7 then (if h.2.2.2.1 < 1 ∨ s.1 < h.2.2.2.1 then s else (h.2.2.2.1, ((pressF L h.2.2.2.1 s.2.1).1, s.2.2)))
  else if h.1 = 8 then (s.1, ([], []))
  else if insE L h.2.2.2.1 h.2.2.2.2 (sumL s.2.1) = 0 then (s.1, (insF L s.1 h.2.2.2.1 h.2.2.2.2 s.2.1, BagM.put h.2.2.2.1 h.2.2.2.2 s.2.2)) else s
/-- What holds of a digest in a crowd. -/
structure Fit (L : Int) (s : DS) : Prop where
  k1 : 1 ≤ s.1
  k2 : s.1 ≤ 1048576
  inv : Inv s.1 L s.2.1 s.2.2 2048
section
variable {L : Int} {s t : DS}
theorem Fit.lower (f : Fit L s) (h1 : 1 ≤ L) (h2 : L ≤ 10) {k : Int} (a : 1 ≤ k) (b : k ≤ s.1) : Fit L (k, ((pressF L k s.2.1).1, s.2.2)) :=
  ⟨a, by have := f.k2; show k ≤ _; omega, ((f.inv.lower h1 a b).1).small h2⟩
theorem Fit.merge (f : Fit L s) (g : Fit L t) (h1 : 1 ≤ L) (h2 : L ≤ 10) (h : ¬ 72057594037927935 < sumL s.2.1 + sumL t.2.1) : Fit L (mrgF L s t) := by
  have f1 := f.k1
  have f2 := f.k2
  have g1 := g.k1
  have hk : 1 ≤ min s.1 t.1 := by omega
  obtain ⟨a, la⟩ := f.inv.lower h1 hk (Int.min_le_left _ _)
  obtain ⟨b, lb⟩ := g.inv.lower h1 hk (Int.min_le_right _ _)
  have sa : sumL (pressF L (min s.1 t.1) s.2.1).1 = sumL s.2.1 := a.tot.trans f.inv.tot.symm
  have sb : sumL (pressF L (min s.1 t.1) t.2.1).1 = sumL t.2.1 := b.tot.trans g.inv.tot.symm
  exact ⟨hk, by show min s.1 t.1 ≤ _; omega, (a.join b hk la lb (by rw [sa, sb]; omega)).small h2⟩
theorem Fit.one (f : Fit L s) (g : Fit L t) (h1 : 1 ≤ L) (h2 : L ≤ 10) (h : Hop) : Fit L (oneF L s t h) := by
  unfold oneF
  split
  · exact f.lower h1 h2 f.k1 (Int.le_refl _)
  split
  · split
    · exact f
    · rename_i q
      exact f.merge g h1 h2 q
  split
  · exact f
  split
  · split
    · exact f
    · exact f.lower h1 h2 (by omega) (by omega)
  split
  · exact ⟨f.k1, f.k2, Inv.nil f.k1 _⟩
  split
  · rename_i q
    exact ⟨f.k1, f.k2, (f.inv.insert h1 f.k1 q).small h2⟩
  · exact f
/-- The codes of both. -/
theorem Fit.code (f : Fit L s) (x c : Int) : BagM.addF L s.2.2 x c = (if insE L x c (sumL s.2.1) = 0 then BagM.put x c s.2.2 else s.2.2, insE L x c (sumL s.2.1)) := by
  have ht := f.inv.tot
  unfold BagM.addF insE
  by_cases hx : 0 ≤ x ∧ x < pw L
  · rw [if_neg (by omega), if_pos hx]
    by_cases hc : c < 1
    · rw [if_pos hc, if_pos hc, if_neg (by omega)]
    · rw [if_neg hc, if_neg hc]
      by_cases hs : 72057594037927935 < sumL s.2.1 + c
      · rw [if_pos (by omega), if_pos hs, if_neg (by omega)]
      · rw [if_neg (by omega), if_neg hs, if_pos rfl]
  · rw [if_pos (by omega), if_neg hx, if_neg (by omega)]
theorem Fit.pour (f : Fit L s) (g : Fit L t) : BagM.pourF L L s.2.2 t.2.2 = if 72057594037927935 < sumL s.2.1 + sumL t.2.1 then (s.2.2, 5) else (BagM.putAll s.2.2 t.2.2, 0) := by
  have h1 := f.inv.tot
  have h2 := g.inv.tot
  unfold BagM.pourF
  rw [if_neg (by simp)]
  by_cases h : 72057594037927935 < sumL s.2.1 + sumL t.2.1
  · rw [if_pos (by omega), if_pos h]
  · rw [if_neg (by omega), if_neg h]
end
/-- What a call leaves of all. -/
def hopF (L : Int) (S : List DS) (h : Hop) : List DS :=
  S.set (atF h.2.1 S.length).toNat (oneF L (S.getD (atF h.2.1 S.length).toNat (0, ([], []))) (S.getD (atF h.2.2.1 S.length).toNat (0, ([], []))) h)
/-- The kinds behind a call. -/
def kdF (D : List Int) (h : Hop) : List Int :=
  if h.1 = 3 ∨ h.1 = 4 ∨ h.1 = 6 ∨ h.1 = 9 then D.set (atF h.2.1 D.length).toNat (3 - D.getD (atF h.2.1 D.length).toNat 0) else D
theorem hopF_len (L : Int) (S : List DS) (h : Hop) : (hopF L S h).length = S.length := by unfold hopF; rw [List.length_set]
theorem kdF_len (D : List Int) (h : Hop) : (kdF D h).length = D.length := by unfold kdF; split <;> simp
theorem hop_fit {L : Int} {S : List DS} (h1 : 1 ≤ L) (h2 : L ≤ 10) (hS : ∀ s ∈ S, Fit L s) (hn : 1 ≤ S.length) (h : Hop) : ∀ s ∈ hopF L S h, Fit L s := by
  intro s hs
  have r1 := at_rng h.2.1 (n := S.length) (by omega)
  have r2 := at_rng h.2.2.1 (n := S.length) (by omega)
  have gt : ∀ i : Nat, i < S.length → Fit L (S.getD i (0, ([], []))) := fun i hi => by
    rw [List.getD_eq_getElem?_getD, List.getElem?_eq_getElem hi]
    exact hS _ (List.getElem_mem hi)
  unfold hopF at hs
  rcases List.mem_or_eq_of_mem_set hs with q | q
  · exact hS s q
  · rw [q]
    exact (gt _ (by omega)).one (gt _ (by omega)) h1 h2 h
/-- The kinds of two crowds are apart. -/
def Apart (A B : List Int) : Prop := A.length = B.length ∧ ∀ i : Nat, i < A.length → (A.getD i 0 = 1 ∧ B.getD i 0 = 2) ∨ (A.getD i 0 = 2 ∧ B.getD i 0 = 1)
theorem Apart.hop {A B : List Int} (q : Apart A B) (hn : 1 ≤ A.length) (h : Hop) : Apart (kdF A h) (kdF B h) := by
  obtain ⟨e, p⟩ := q
  refine ⟨by rw [kdF_len, kdF_len, e], fun i hi => ?_⟩
  rw [kdF_len] at hi
  unfold kdF
  by_cases c : h.1 = 3 ∨ h.1 = 4 ∨ h.1 = 6 ∨ h.1 = 9
  · rw [if_pos c, if_pos c, ← e]
    have r1 := at_rng h.2.1 (n := A.length) (by omega)
    have pi := p i hi
    have pj := p (atF h.2.1 A.length).toNat (by omega)
    generalize (atF h.2.1 A.length).toNat = j at *
    simp only [List.getD_eq_getElem?_getD, List.getElem?_set] at *
    by_cases hij : j = i
    · subst hij
      rw [if_pos rfl, if_pos rfl, if_pos hi, if_pos (by omega)]
      simp only [Option.getD_some]
      omega
    · rw [if_neg hij, if_neg hij]
      exact pi
  · rw [if_neg c, if_neg c]
    exact p i hi
end TopM
end Go.Proofs.YteebghoijaaakaaGreat
/- What recast refuses. By the prover of this repo. -/
namespace Go.Proofs.YteebghoijaaakaaGreat
open Go.RowKit
open TwigM RollM StoM

section
variable (d p : Nat) (K kd L : Int) (l : List Nd) (F : Nat → Prop) (w : World)
end
end Go.Proofs.YteebghoijaaakaaGreat
/- The law's own words: whether a digest stands for a bag. By the prover of this repo. -/
namespace Go.Proofs.YteebghoijaaakaaGreat
open Go.RowKit
open TwigM RollM StoM TopM

theorem low_high (L y : Int) {l : List Nd} (hc : Canon l) : 0 ≤ lowS L y l ∧ lowS L y l ≤ sumL l ∧ 0 ≤ highS L y l ∧ highS L y l ≤ sumL l := by
  have h1 := sumM_range (g := fun id => if hiF L id ≤ y then 1 else 0) hc (fun x => by split <;> omega) l.length
  have h2 := sumM_range (g := fun id => if loF L id ≤ y then 1 else 0) hc (fun x => by split <;> omega) l.length
  rw [List.take_length] at h1 h2
  unfold lowS highS
  omega
end Go.Proofs.YteebghoijaaakaaGreat
/- The law's own words, on: calls of a digest, and the bag of all that it stands for then. By the prover of this repo. -/
namespace Go.Proofs.YteebghoijaaakaaGreat
open Go.RowKit
open TwigM RollM StoM TopM

/-- The cells of a list of calls. -/
def opc (l : List TopM.Op) (j : Nat) : Value := .int .i64 (if j % 3 = 0 then (l.getD (j / 3) (0, 0, 0)).1 else if j % 3 = 1 then (l.getD (j / 3) (0, 0, 0)).2.1 else (l.getD (j / 3) (0, 0, 0)).2.2)
def OpWf (l : List TopM.Op) : Prop := ∀ o ∈ l, (-9223372036854775808 ≤ o.1 ∧ o.1 ≤ 9223372036854775807) ∧ (-9223372036854775808 ≤ o.2.1 ∧ o.2.1 ≤ 9223372036854775807) ∧ -9223372036854775808 ≤ o.2.2 ∧ o.2.2 ≤ 9223372036854775807
theorem op_at {w : World} {A : Option Addr} {l : List TopM.Op} (h : Rd w A l.length 3 (opc l)) {k : Nat} (hk : k < l.length) :
    ∃ b off, A = some ⟨b, off, none⟩ ∧ b < w.heap.size ∧ w.cell? ⟨b, off + k * 3, none⟩ = some (.int .i64 l[k].1) ∧ w.cell? ⟨b, off + k * 3 + 1, none⟩ = some (.int .i64 l[k].2.1) ∧ w.cell? ⟨b, off + k * 3 + 2, none⟩ = some (.int .i64 l[k].2.2) := by
  obtain ⟨b, off, e, hb, hc⟩ := h (by omega)
  refine ⟨b, off, e, hb, ?_, ?_, ?_⟩
  · rw [hc (k * 3) (by omega)]
    unfold opc
    rw [if_pos (by omega), show k * 3 / 3 = k by omega]
    simp [hk]
  · have := hc (k * 3 + 1) (by omega)
    rw [Nat.add_assoc, this]
    unfold opc
    rw [if_neg (by omega), if_pos (by omega), show (k * 3 + 1) / 3 = k by omega]
    simp [hk]
  · have := hc (k * 3 + 2) (by omega)
    rw [Nat.add_assoc, this]
    unfold opc
    rw [if_neg (by omega), if_neg (by omega), show (k * 3 + 2) / 3 = k by omega]
    simp [hk]
theorem Rd.turned {w w' : World} {A : Option Addr} {n size : Nat} {f : Nat → Value} {S : Nat → Prop} (h : Rd w A n size f) (t : Turn S w w') (hn : 0 < n → ∀ b off, A = some ⟨b, off, none⟩ → ¬ S b) : Rd w' A n size f := fun h0 => by
  obtain ⟨b, off, e, hb, hc⟩ := h h0
  have hs := t.size
  exact ⟨b, off, e, by omega, fun i hi => (World.cell?_of_block (a := ⟨b, off + i, none⟩) (t.block b hb (hn h0 b off e))).trans (hc i hi)⟩
theorem DigAt.off {w w' : World} {d p : Nat} {K kd L : Int} {l : List Nd} {F S : Nat → Prop} (h : DigAt w d p K kd L l F) (t : Turn S w w') (h1 : ¬ S d) (h2 : ¬ S p) (h3 : ∀ j, F j → ¬ S j) : DigAt w' d p K kd L l F :=
  ⟨h.blk.turned t h1, h.pool.turned t h2 h3, h.ndp, h.ndF, h.k1, h.k2⟩

/-- A digest, and beside it a bag in a block of the call's own. -/
structure AccAt (W wr : World) (d p : Nat) (K kd L : Int) (l b : List Nd) (v0 v : Value) (F0 F : Nat → Prop) : Prop where
  dig : DigAt wr d p K kd L l F
  box : Blk wr W.heap.size 53 #[.int .i64 L, v]
  res : Blk wr (W.heap.size + 1) 53 #[.int .i64 0, .slice none 0 0]
  nds : Nds wr v b
  turn : Turn F0 W wr
  sub : ∀ j, F j → F0 j ∨ W.heap.size + 2 ≤ j
  sep : ∀ j, v.ownBlock = some j → j < wr.heap.size ∧ ¬ F j ∧ j ≠ W.heap.size ∧ j ≠ W.heap.size + 1
  src : ∀ j, v.ownBlock = some j → v0.ownBlock = some j ∨ W.heap.size ≤ j
  old : ∀ j, F0 j → j < W.heap.size
  dlt : d < W.heap.size ∧ p < W.heap.size
section
variable {W wr w3 : World} {d p : Nat} {K kd L : Int} {l l' b b' : List Nd} {v0 v v' : Value} {F0 F F' : Nat → Prop}
theorem AccAt.size (s : AccAt W wr d p K kd L l b v0 v F0 F) : W.heap.size + 2 ≤ wr.heap.size := by have := s.res.lt; omega
theorem AccAt.call (s : AccAt W wr d p K kd L l b v0 v F0 F) (h1 : DigAt w3 d p K kd L l' F') (t : Turn F wr w3) (hf : ∀ j, F' j → F j ∨ wr.heap.size ≤ j) : AccAt W w3 d p K kd L l' b v0 v F0 F' := by
  have hs := s.size
  have ht := t.size
  have hnF : ∀ j, F j → j ≠ W.heap.size ∧ j ≠ W.heap.size + 1 := fun j hj => by
    rcases s.sub j hj with k | k
    · have := s.old j k; omega
    · omega
  refine ⟨h1, s.box.turned t fun k => (hnF _ k).1 rfl, s.res.turned t fun k => (hnF _ k).2 rfl, s.nds.turned t fun j hj => (s.sep j hj).2.1, s.turn.trans t fun j hj k => ?_, fun j hj => ?_, fun j hj => ?_, s.src, s.old, s.dlt⟩
  · rcases s.sub j k with q | q
    · exact q
    · omega
  · rcases hf j hj with k | k
    · exact s.sub j k
    · right; omega
  · obtain ⟨e1, e2, e3, e4⟩ := s.sep j hj
    refine ⟨by omega, fun k => ?_, e3, e4⟩
    rcases hf j k with q | q
    · exact e2 q
    · omega
theorem AccAt.same (s : AccAt W wr d p K kd L l b v0 v F0 F) (hb : Below wr.heap.size wr w3) : AccAt W w3 d p K kd L l b v0 v F0 F :=
  s.call (s.dig.kept hb) (Below.turn hb F) fun _ h => .inl h
theorem AccAt.bag (s : AccAt W wr d p K kd L l b v0 v F0 F) (hb : Below wr.heap.size wr w3) (hn : Nds w3 v' b') (hv : ∀ j, v'.ownBlock = some j → j < w3.heap.size ∧ (v.ownBlock = some j ∨ wr.heap.size ≤ j)) :
    AccAt W ((w3.setCell ⟨W.heap.size, 0, none⟩ (.int .i64 L)).setCell ⟨W.heap.size, 1, none⟩ v') d p K kd L l b' v0 v' F0 F := by
  have hs := s.size
  have hz := hb.size
  have k := s.same hb
  have hnF : ∀ j, F j → j ≠ W.heap.size := fun j hj => by
    rcases s.sub j hj with k | k
    · have := s.old j k; omega
    · omega
  have hFl := s.dig.lt.2.2
  have t : Turn (fun j => j = W.heap.size) w3 ((w3.setCell ⟨W.heap.size, 0, none⟩ (.int .i64 L)).setCell ⟨W.heap.size, 1, none⟩ v') :=
    (Turn.setCell w3 (fun j => j = W.heap.size) ⟨W.heap.size, 0, none⟩ (.int .i64 L) rfl).trans (Turn.setCell _ (fun j => j = W.heap.size) ⟨W.heap.size, 1, none⟩ v' rfl) fun _ _ h => h
  have hd := s.dlt
  have hv2 : ∀ j, v'.ownBlock = some j → j < w3.heap.size ∧ ¬ F j ∧ j ≠ W.heap.size ∧ j ≠ W.heap.size + 1 := fun j hj => by
    obtain ⟨e1, e2⟩ := hv j hj
    rcases e2 with q | q
    · obtain ⟨_, h2, h3, h4⟩ := s.sep j q
      exact ⟨e1, h2, h3, h4⟩
    · refine ⟨e1, fun hF => ?_, by omega, by omega⟩
      have := hFl j hF; omega
  refine ⟨k.dig.off t (by omega) (by omega) fun j hj => hnF j hj, ?_, k.res.turned t (by omega), hn.turned t fun j hj => (hv2 j hj).2.2.1, k.turn.trans t fun j hj e => by omega, k.sub, fun j hj => ?_, fun j hj => (by have := (hv j hj).2; rcases this with q | q; exact s.src j q; right; omega), s.old, s.dlt⟩
  · have := (k.box.set 0 (.int .i64 L)).set 1 v'
    simpa using this
  · have := hv2 j hj
    simpa using this
theorem AccAt.empty (s : AccAt W wr d p K kd L l b v0 v F0 F) : AccAt W (wr.setCell ⟨W.heap.size, 1, none⟩ (.slice none 0 0)) d p K kd L l [] v0 (.slice none 0 0) F0 F := by
  have hs := s.size
  have hnF : ∀ j, F j → j ≠ W.heap.size := fun j hj => by
    rcases s.sub j hj with k | k
    · have := s.old j k; omega
    · omega
  have t : Turn (fun j => j = W.heap.size) wr (wr.setCell ⟨W.heap.size, 1, none⟩ (.slice none 0 0)) := Turn.setCell wr (fun j => j = W.heap.size) ⟨W.heap.size, 1, none⟩ _ rfl
  have hd := s.dlt
  refine ⟨s.dig.off t (by omega) (by omega) fun j hj => hnF j hj, ?_, s.res.turned t (by omega), Nds.nil _, s.turn.trans t fun j hj e => by omega, s.sub, (fun j hj => by cases hj), (fun j hj => by cases hj), s.old, s.dlt⟩
  have := s.box.set 1 (.slice none 0 0)
  simpa using this
end
/-- What a call of accept leaves. -/
def AccPost (w : World) (d p : Nat) (K kd L : Int) (s : List Nd × List Nd) (v : Value) (F : Nat → Prop) (e : Ending) (w' : World) : Prop :=
  ∃ v' F', e = .returned (BG.rb L v') ∧ DigAt w' d p K kd L s.1 F' ∧ Nds w' v' s.2 ∧ Turn F w w' ∧ (∀ j, F' j → F j ∨ w.heap.size ≤ j) ∧ ∀ j, v'.ownBlock = some j → j < w'.heap.size ∧ ¬ F' j ∧ (v.ownBlock = some j ∨ w.heap.size ≤ j)
end Go.Proofs.YteebghoijaaakaaGreat
/- Several digests, and the bags of all that they stand for: how they lie, and what changes keep it. By the prover of this repo. -/
namespace Go.Proofs.YteebghoijaaakaaGreat
namespace CW
open Go.RowKit
open TwigM RollM StoM TopM

def up {α : Type} (f : Nat → α) (i : Nat) (x : α) : Nat → α := fun j => if j = i then x else f j
theorem up_same {α : Type} (f : Nat → α) (i : Nat) (x : α) : up f i x i = x := if_pos rfl
theorem up_other {α : Type} (f : Nat → α) {i j : Nat} (x : α) (h : j ≠ i) : up f i x j = f j := if_neg h
theorem up_up {α : Type} (f : Nat → α) (i : Nat) (x y : α) : up (up f i x) i y = up f i y := by
  funext j
  unfold up
  split <;> rfl

/-- How several digests lie. -/
structure CrowdX (w : World) (c gd gb n cd cb : Nat) (L : Int) (D : Nat → Int) (s : Nat → DS) (d p : Nat → Nat) (v : Nat → Value) (Fs : Nat → Nat → Prop) : Prop where
  blk : Blk w c 36 #[.int .i64 L, .slice (some ⟨gd, 0, none⟩) n cd, .slice (some ⟨gb, 0, none⟩) n cb]
  ds : ∃ cs, Blk w gd 40 cs ∧ ∀ i, i < n → cs[i]? = some (.pointer (some ⟨d i, 0, none⟩))
  bs : ∃ cs, Blk w gb 53 cs ∧ ∀ i, i < n → cs[i * 2]? = some (.int .i64 L) ∧ cs[i * 2 + 1]? = some (v i)
  dig : ∀ i, i < n → DigAt w (d i) (p i) (s i).1 (D i) L (s i).2.1 (Fs i)
  nds : ∀ i, i < n → Nds w (v i) (s i).2.2
  vlt : ∀ i, i < n → ∀ j, (v i).ownBlock = some j → j < w.heap.size ∧ j ≠ gd ∧ j ≠ gb ∧ ∀ k, k < n → ¬ Fs k j
  cne : c ≠ gd ∧ c ≠ gb ∧ gd ≠ gb ∧ ∀ k, k < n → ¬ Fs k c ∧ ¬ Fs k gd ∧ ¬ Fs k gb
  dne : ∀ i, i < n → d i ≠ gd ∧ d i ≠ gb ∧ p i ≠ gd ∧ p i ≠ gb
  sep : ∀ i k, i < n → k < n → ¬ Fs k (d i) ∧ ¬ Fs k (p i)
  disj : ∀ i k, i < n → k < n → i ≠ k → ∀ j, Fs i j → ¬ Fs k j
/-- What may be turned, and all that they lie in. -/
def FF (gd gb n : Nat) (Fs : Nat → Nat → Prop) (j : Nat) : Prop := j = gd ∨ j = gb ∨ ∃ i, i < n ∧ Fs i j
def Al (c gd gb n : Nat) (d p : Nat → Nat) (v : Nat → Value) (Fs : Nat → Nat → Prop) (j : Nat) : Prop := j = c ∨ j = gd ∨ j = gb ∨ ∃ i, i < n ∧ (j = d i ∨ j = p i ∨ Fs i j ∨ (v i).ownBlock = some j)
section
variable {w w' : World} {c gd gb n cd cb : Nat} {L : Int} {D : Nat → Int} {s : Nat → DS} {d p : Nat → Nat} {v : Nat → Value} {Fs : Nat → Nat → Prop}
theorem CrowdX.gdlt (h : CrowdX w c gd gb n cd cb L D s d p v Fs) : gd < w.heap.size := by obtain ⟨cs, q, _⟩ := h.ds; exact q.lt
theorem CrowdX.gblt (h : CrowdX w c gd gb n cd cb L D s d p v Fs) : gb < w.heap.size := by obtain ⟨cs, q, _⟩ := h.bs; exact q.lt
theorem CrowdX.lt (h : CrowdX w c gd gb n cd cb L D s d p v Fs) : ∀ j, Al c gd gb n d p v Fs j → j < w.heap.size := by
  rintro j (rfl | rfl | rfl | ⟨i, hi, rfl | rfl | q | q⟩)
  · exact h.blk.lt
  · exact h.gdlt
  · exact h.gblt
  · exact (h.dig i hi).lt.1
  · exact (h.dig i hi).lt.2.1
  · exact (h.dig i hi).lt.2.2 j q
  · exact (h.vlt i hi j q).1
theorem CrowdX.turned (h : CrowdX w c gd gb n cd cb L D s d p v Fs) {S : Nat → Prop} (t : Turn S w w') (hS : ∀ j, Al c gd gb n d p v Fs j → ¬ S j) : CrowdX w' c gd gb n cd cb L D s d p v Fs := by
  obtain ⟨cs, q1, q2⟩ := h.ds
  obtain ⟨cs2, r1, r2⟩ := h.bs
  have hz := t.size
  refine ⟨h.blk.turned t (hS _ (.inl rfl)), ⟨cs, q1.turned t (hS _ (.inr (.inl rfl))), q2⟩, ⟨cs2, r1.turned t (hS _ (.inr (.inr (.inl rfl)))), r2⟩, fun i hi => ?_, fun i hi => ?_, fun i hi j hj => ?_, h.cne, h.dne, h.sep, h.disj⟩
  · exact (h.dig i hi).off t (hS _ (.inr (.inr (.inr ⟨i, hi, .inl rfl⟩)))) (hS _ (.inr (.inr (.inr ⟨i, hi, .inr (.inl rfl)⟩)))) fun j hj => hS _ (.inr (.inr (.inr ⟨i, hi, .inr (.inr (.inl hj))⟩)))
  · exact (h.nds i hi).turned t fun j hj => hS _ (.inr (.inr (.inr ⟨i, hi, .inr (.inr (.inr hj))⟩)))
  · obtain ⟨a, b⟩ := h.vlt i hi j hj
    exact ⟨by omega, b⟩
theorem CrowdX.kept (h : CrowdX w c gd gb n cd cb L D s d p v Fs) (b : Below w.heap.size w w') : CrowdX w' c gd gb n cd cb L D s d p v Fs :=
  h.turned (Below.turn b fun _ => False) fun _ _ q => q
/-- A digest is changed where it lies. -/
theorem CrowdX.call (h : CrowdX w c gd gb n cd cb L D s d p v Fs) {i : Nat} (hi : i < n) {l' : List Nd} {F' : Nat → Prop} (h1 : DigAt w' (d i) (p i) (s i).1 (D i) L l' F') (t : Turn (Fs i) w w') (hF : ∀ j, F' j → Fs i j ∨ w.heap.size ≤ j) :
    CrowdX w' c gd gb n cd cb L D (up s i ((s i).1, l', (s i).2.2)) d p v (up Fs i F') := by
  obtain ⟨cs, q1, q2⟩ := h.ds
  obtain ⟨cs2, r1, r2⟩ := h.bs
  have hz := t.size
  have hlt := h.lt
  obtain ⟨c1, c2, c3, c4⟩ := h.cne
  have nF : ∀ k, k < n → ∀ j, j < w.heap.size → (∀ m, m < n → ¬ Fs m j) → ¬ up Fs i F' k j := fun k hk j hj hm q => by
    by_cases e : k = i
    · subst e
      rw [up_same] at q
      rcases hF j q with a | a
      · exact hm k hk a
      · omega
    · rw [up_other _ _ e] at q
      exact hm k hk q
  refine ⟨h.blk.turned t (c4 i hi).1, ⟨cs, q1.turned t (c4 i hi).2.1, q2⟩, ⟨cs2, r1.turned t (c4 i hi).2.2, r2⟩, fun k hk => ?_, fun k hk => ?_, fun k hk j hj => ?_, ⟨c1, c2, c3, fun k hk => ?_⟩, h.dne, fun k m hk hm => ?_, fun k m hk hm hne j hj => ?_⟩
  · by_cases e : k = i
    · subst e
      rw [up_same, up_same]
      exact h1
    · rw [up_other _ _ e, up_other _ _ e]
      exact (h.dig k hk).off t (h.sep k i hk hi).1 (h.sep k i hk hi).2 fun j hj => h.disj k i hk hi e j hj
  · have e : (up s i ((s i).1, l', (s i).2.2) k).2.2 = (s k).2.2 := by
      by_cases e : k = i
      · subst e; rw [up_same]
      · rw [up_other _ _ e]
    rw [e]
    exact (h.nds k hk).turned t fun j hj => (h.vlt k hk j hj).2.2.2 i hi
  · obtain ⟨a, b1, b2, b3⟩ := h.vlt k hk j hj
    exact ⟨by omega, b1, b2, fun m hm => nF m hm j a b3⟩
  · exact ⟨nF k hk c h.blk.lt fun m hm => (c4 m hm).1, nF k hk gd h.gdlt fun m hm => (c4 m hm).2.1, nF k hk gb h.gblt fun m hm => (c4 m hm).2.2⟩
  · exact ⟨nF m hm _ (h.dig k hk).lt.1 fun x hx => (h.sep k x hk hx).1, nF m hm _ (h.dig k hk).lt.2.1 fun x hx => (h.sep k x hk hx).2⟩
  · by_cases e : k = i
    · subst e
      rw [up_same] at hj
      rw [up_other _ _ (Ne.symm hne)]
      intro q
      rcases hF j hj with a | a
      · exact h.disj k m hk hm hne j a q
      · have := (h.dig m hm).lt.2.2 j q
        omega
    · rw [up_other _ _ e] at hj
      by_cases e2 : m = i
      · subst e2
        rw [up_same]
        intro q
        rcases hF j q with a | a
        · exact h.disj k m hk hm hne j hj a
        · have := (h.dig k hk).lt.2.2 j hj
          omega
      · rw [up_other _ _ e2]
        exact h.disj k m hk hm hne j hj
/-- Another digest, made anew, in a digest's stead. -/
theorem CrowdX.putD (h : CrowdX w c gd gb n cd cb L D s d p v Fs) {i : Nat} (hi : i < n) {B : Nat} (hB : ∀ j, Al c gd gb n d p v Fs j → j < B) {d' p' : Nat} {K' kd' : Int} {l' : List Nd} {F' : Nat → Prop} (h1 : DigAt w d' p' K' kd' L l' F') (b1 : B ≤ d') (b2 : B ≤ p') (b3 : ∀ j, F' j → B ≤ j) :
    CrowdX (w.setCell ⟨gd, i, none⟩ (.pointer (some ⟨d', 0, none⟩))) c gd gb n cd cb L (up D i kd') (up s i (K', l', (s i).2.2)) (up d i d') (up p i p') v (up Fs i F') := by
  obtain ⟨cs, q1, q2⟩ := h.ds
  obtain ⟨cs2, r1, r2⟩ := h.bs
  obtain ⟨c1, c2, c3, c4⟩ := h.cne
  have hc := hB c (.inl rfl)
  have hgd := hB gd (.inr (.inl rfl))
  have hgb := hB gb (.inr (.inr (.inl rfl)))
  have hdi : ∀ k, k < n → d k < B := fun k hk => hB _ (.inr (.inr (.inr ⟨k, hk, .inl rfl⟩)))
  have hpi : ∀ k, k < n → p k < B := fun k hk => hB _ (.inr (.inr (.inr ⟨k, hk, .inr (.inl rfl)⟩)))
  have hFi : ∀ k, k < n → ∀ j, Fs k j → j < B := fun k hk j hj => hB _ (.inr (.inr (.inr ⟨k, hk, .inr (.inr (.inl hj))⟩)))
  have hvi : ∀ k, k < n → ∀ j, (v k).ownBlock = some j → j < B := fun k hk j hj => hB _ (.inr (.inr (.inr ⟨k, hk, .inr (.inr (.inr hj))⟩)))
  have t : Turn (fun j => j = gd) w (w.setCell ⟨gd, i, none⟩ (.pointer (some ⟨d', 0, none⟩))) := Turn.setCell w _ ⟨gd, i, none⟩ _ rfl
  have nF : ∀ k, k < n → ∀ j, j < B → (∀ m, m < n → ¬ Fs m j) → ¬ up Fs i F' k j := fun k hk j hj hm q => by
    by_cases e : k = i
    · subst e
      rw [up_same] at q
      have := b3 j q
      omega
    · rw [up_other _ _ e] at q
      exact hm k hk q
  have hsz : i < cs.size := (Array.getElem?_eq_some_iff.1 (q2 i hi)).1
  refine ⟨h.blk.turned t c1, ⟨_, q1.set i _, fun k hk => ?_⟩, ⟨cs2, r1.turned t (Ne.symm c3), r2⟩, fun k hk => ?_, fun k hk => ?_, fun k hk j hj => ?_, ⟨c1, c2, c3, fun k hk => ?_⟩, fun k hk => ?_, fun k m hk hm => ?_, fun k m hk hm hne j hj => ?_⟩
  · by_cases e : k = i
    · subst e
      rw [up_same, Array.getElem?_setIfInBounds, if_pos rfl, if_pos hsz]
    · rw [up_other _ _ e, Array.getElem?_setIfInBounds, if_neg (Ne.symm e)]
      exact q2 k hk
  · by_cases e : k = i
    · subst e
      rw [up_same, up_same, up_same, up_same, up_same]
      exact h1.off t (by omega) (by omega) fun j hj e => by have := b3 j hj; omega
    · rw [up_other _ _ e, up_other _ _ e, up_other _ _ e, up_other _ _ e, up_other _ _ e]
      exact (h.dig k hk).off t (h.dne k hk).1 (h.dne k hk).2.2.1 fun j hj e => by subst e; exact (c4 k hk).2.1 hj
  · have e : (up s i (K', l', (s i).2.2) k).2.2 = (s k).2.2 := by
      by_cases e : k = i
      · subst e; rw [up_same]
      · rw [up_other _ _ e]
    rw [e]
    exact (h.nds k hk).turned t fun j hj => (h.vlt k hk j hj).2.1
  · obtain ⟨a, e1, e2, e3⟩ := h.vlt k hk j hj
    exact ⟨by simpa using a, e1, e2, fun m hm => nF m hm j (hvi k hk j hj) e3⟩
  · exact ⟨nF k hk c hc fun m hm => (c4 m hm).1, nF k hk gd hgd fun m hm => (c4 m hm).2.1, nF k hk gb hgb fun m hm => (c4 m hm).2.2⟩
  · by_cases e : k = i
    · subst e
      rw [up_same, up_same]
      omega
    · rw [up_other _ _ e, up_other _ _ e]
      exact h.dne k hk
  · by_cases e : k = i
    · subst e
      rw [up_same, up_same]
      by_cases e2 : m = k
      · subst e2
        rw [up_same]
        exact ⟨h1.ndF, h1.pool.out⟩
      · rw [up_other _ _ e2]
        exact ⟨fun q => by have := hFi m hm _ q; omega, fun q => by have := hFi m hm _ q; omega⟩
    · rw [up_other _ _ e, up_other _ _ e]
      exact ⟨nF m hm _ (hdi k hk) fun x hx => (h.sep k x hk hx).1, nF m hm _ (hpi k hk) fun x hx => (h.sep k x hk hx).2⟩
  · by_cases e : k = i
    · subst e
      rw [up_same] at hj
      rw [up_other _ _ (Ne.symm hne)]
      intro q
      have a1 := hFi m hm j q
      have a2 := b3 j hj
      omega
    · rw [up_other _ _ e] at hj
      by_cases e2 : m = i
      · subst e2
        rw [up_same]
        intro q
        have a1 := hFi k hk j hj
        have a2 := b3 j q
        omega
      · rw [up_other _ _ e2]
        exact h.disj k m hk hm hne j hj
/-- Other readings in a bag. -/
theorem CrowdX.putV (h : CrowdX w c gd gb n cd cb L D s d p v Fs) {i : Nat} (hi : i < n) {u : Value} {b' : List Nd} (hn : Nds w u b')
    (hu : ∀ j, u.ownBlock = some j → j < w.heap.size ∧ j ≠ gd ∧ j ≠ gb ∧ ∀ k, k < n → ¬ Fs k j) :
    CrowdX ((w.setCell ⟨gb, i * 2, none⟩ (.int .i64 L)).setCell ⟨gb, i * 2 + 1, none⟩ u) c gd gb n cd cb L D (up s i ((s i).1, (s i).2.1, b')) d p (up v i u) Fs := by
  obtain ⟨cs, q1, q2⟩ := h.ds
  obtain ⟨cs2, r1, r2⟩ := h.bs
  obtain ⟨c1, c2, c3, c4⟩ := h.cne
  have t : Turn (fun j => j = gb) w ((w.setCell ⟨gb, i * 2, none⟩ (.int .i64 L)).setCell ⟨gb, i * 2 + 1, none⟩ u) :=
    (Turn.setCell w (fun j => j = gb) ⟨gb, i * 2, none⟩ (.int .i64 L) rfl).trans (Turn.setCell _ (fun j => j = gb) ⟨gb, i * 2 + 1, none⟩ u rfl) fun _ _ q => q
  have hz1 := (Array.getElem?_eq_some_iff.1 (r2 i hi).1).1
  have hz2 := (Array.getElem?_eq_some_iff.1 (r2 i hi).2).1
  refine ⟨h.blk.turned t c2, ⟨cs, q1.turned t c3, q2⟩, ⟨_, (r1.set (i * 2) _).set (i * 2 + 1) _, fun k hk => ?_⟩, fun k hk => ?_, fun k hk => ?_, fun k hk j hj => ?_, h.cne, h.dne, h.sep, h.disj⟩
  · simp only [Array.getElem?_setIfInBounds, Array.size_setIfInBounds]
    by_cases e : k = i
    · subst e
      rw [if_neg (by omega), if_pos rfl, if_pos hz1, if_pos rfl, if_pos hz2, up_same]
      exact ⟨rfl, rfl⟩
    · rw [if_neg (by omega), if_neg (by omega), if_neg (by omega), if_neg (by omega), up_other _ _ e]
      exact r2 k hk
  · have e : (up s i ((s i).1, (s i).2.1, b') k).1 = (s k).1 ∧ (up s i ((s i).1, (s i).2.1, b') k).2.1 = (s k).2.1 := by
      by_cases e : k = i
      · subst e; rw [up_same]; exact ⟨rfl, rfl⟩
      · rw [up_other _ _ e]; exact ⟨rfl, rfl⟩
    rw [e.1, e.2]
    exact (h.dig k hk).off t (h.dne k hk).2.1 (h.dne k hk).2.2.2 fun j hj e => by subst e; exact (c4 k hk).2.2 hj
  · by_cases e : k = i
    · subst e
      rw [up_same, up_same]
      exact hn.turned t fun j hj => (hu j hj).2.2.1
    · rw [up_other _ _ e, up_other _ _ e]
      exact (h.nds k hk).turned t fun j hj => (h.vlt k hk j hj).2.2.1
  · by_cases e : k = i
    · subst e
      rw [up_same] at hj
      have := hu j hj
      exact ⟨by simpa using this.1, this.2⟩
    · rw [up_other _ _ e] at hj
      have := h.vlt k hk j hj
      exact ⟨by simpa using this.1, this.2⟩
end
end CW
end Go.Proofs.YteebghoijaaakaaGreat
/- Plain facts of a digest in a crowd: what its calls ask of it. By the prover of this repo. -/
namespace Go.Proofs.YteebghoijaaakaaGreat
namespace TopM
open TwigM RollM StoM Go.RowKit

section
variable {L : Int} {s t : DS}
theorem Fit.load (f : Fit L s) (h1 : 1 ≤ L) (h2 : L ≤ 10) {kd : Int} (hk : kd = 1 ∨ kd = 2) : loadB L s.1 kd s.2.1 = true :=
  load_of f.inv h1 (by omega) f.k1 f.k2 (by unfold kindB; rcases hk with rfl | rfl <;> simp <;> omega)
theorem Fit.wf (f : Fit L s) (h2 : L ≤ 10) : NdWf s.2.1 := wf_of f.inv.canon f.inv.inU (by omega) f.inv.sum
theorem Fit.roll (f : Fit L s) (h1 : 1 ≤ L) (h2 : L ≤ 10) : rollB L s.2.1 = true := roll_of h1 (by omega) f.inv.canon f.inv.inU f.inv.sum
theorem Fit.len (f : Fit L s) : s.2.1.length ≤ 2048 := f.inv.len
theorem Fit.blen (f : Fit L s) : s.2.2.length ≤ 2048 := f.inv.blen
theorem Fit.meas (f : Fit L s) (h1 : 1 ≤ L) (h2 : L ≤ 10) : meas s.2.1 (startF s.2.1) ≤ 10000000 := by
  have h := meas_le (show 0 ≤ L by omega) (show L ≤ 48 by omega) f.inv.inU
  have := f.len
  omega
theorem Fit.light (f : Fit L s) : lightB L (sumL s.2.1 / s.1) s.2.1 = true := by
  have hm : 0 ≤ sumL s.2.1 / s.1 := Int.ediv_nonneg (sumL_nonneg s.2.1 f.inv.canon.cntL) (by have := f.k1; omega)
  exact (lightB_iff f.inv.canon f.inv.inU hm).2 f.inv.light
end
/-- A kind of a store. -/
def Kd (kd : Int) : Prop := kd = 1 ∨ kd = 2
theorem Kd.other {kd : Int} (h : Kd kd) : Kd (3 - kd) := by unfold Kd at *; omega
end TopM
end Go.Proofs.YteebghoijaaakaaGreat
/- Several digests, on: how far a call reaches. By the prover of this repo. -/
namespace Go.Proofs.YteebghoijaaakaaGreat
namespace CW
open Go.RowKit
open TwigM RollM StoM TopM

theorem up_self {α : Type} (f : Nat → α) (i : Nat) : up f i (f i) = f := by
  funext j
  unfold up
  split
  · rename_i h; rw [h]
  · rfl
/-- How far a call has reached. -/
structure Hp (w0 w : World) (c gd gb n : Nat) (d0 p0 : Nat → Nat) (v0 : Nat → Value) (Fs0 : Nat → Nat → Prop) (d p : Nat → Nat) (v : Nat → Value) (Fs : Nat → Nat → Prop) : Prop where
  turn : Turn (FF gd gb n Fs0) w0 w
  al : ∀ j, Al c gd gb n d p v Fs j → Al c gd gb n d0 p0 v0 Fs0 j ∨ w0.heap.size ≤ j
  ff : ∀ j, FF gd gb n Fs j → FF gd gb n Fs0 j ∨ w0.heap.size ≤ j
section
variable {w0 w w' : World} {c gd gb n : Nat} {d0 p0 : Nat → Nat} {v0 : Nat → Value} {Fs0 : Nat → Nat → Prop} {d p : Nat → Nat} {v : Nat → Value} {Fs : Nat → Nat → Prop}
theorem Hp.start (w0 : World) (c gd gb n : Nat) (d0 p0 : Nat → Nat) (v0 : Nat → Value) (Fs0 : Nat → Nat → Prop) : Hp w0 w0 c gd gb n d0 p0 v0 Fs0 d0 p0 v0 Fs0 :=
  ⟨Turn.refl _ _, fun _ h => .inl h, fun _ h => .inl h⟩
theorem Hp.below (h : Hp w0 w c gd gb n d0 p0 v0 Fs0 d p v Fs) (b : Below w.heap.size w w') : Hp w0 w' c gd gb n d0 p0 v0 Fs0 d p v Fs :=
  ⟨h.turn.trans (Below.turn b _) fun _ _ q => q, h.al, h.ff⟩
theorem Hp.call (h : Hp w0 w c gd gb n d0 p0 v0 Fs0 d p v Fs) {i : Nat} (hi : i < n) {F' : Nat → Prop} (t : Turn (Fs i) w w') (hF : ∀ j, F' j → Fs i j ∨ w.heap.size ≤ j) : Hp w0 w' c gd gb n d0 p0 v0 Fs0 d p v (up Fs i F') := by
  have hz := h.turn.size
  refine ⟨h.turn.trans t fun j hj q => ?_, fun j q => ?_, fun j q => ?_⟩
  · rcases h.ff j (.inr (.inr ⟨i, hi, q⟩)) with e | e
    · exact e
    · omega
  · rcases q with q | q | q | ⟨k, hk, q | q | q | q⟩
    · exact h.al j (.inl q)
    · exact h.al j (.inr (.inl q))
    · exact h.al j (.inr (.inr (.inl q)))
    · exact h.al j (.inr (.inr (.inr ⟨k, hk, .inl q⟩)))
    · exact h.al j (.inr (.inr (.inr ⟨k, hk, .inr (.inl q)⟩)))
    · by_cases e : k = i
      · subst e
        rw [up_same] at q
        rcases hF j q with a | a
        · exact h.al j (.inr (.inr (.inr ⟨k, hk, .inr (.inr (.inl a))⟩)))
        · right; omega
      · rw [up_other _ _ e] at q
        exact h.al j (.inr (.inr (.inr ⟨k, hk, .inr (.inr (.inl q))⟩)))
    · exact h.al j (.inr (.inr (.inr ⟨k, hk, .inr (.inr (.inr q))⟩)))
  · rcases q with q | q | ⟨k, hk, q⟩
    · exact h.ff j (.inl q)
    · exact h.ff j (.inr (.inl q))
    · by_cases e : k = i
      · subst e
        rw [up_same] at q
        rcases hF j q with a | a
        · exact h.ff j (.inr (.inr ⟨k, hk, a⟩))
        · right; omega
      · rw [up_other _ _ e] at q
        exact h.ff j (.inr (.inr ⟨k, hk, q⟩))
theorem Hp.putD (h : Hp w0 w c gd gb n d0 p0 v0 Fs0 d p v Fs) {i d' p' : Nat} {F' : Nat → Prop} (x : Value) (h1 : w0.heap.size ≤ d') (h2 : w0.heap.size ≤ p') (h3 : ∀ j, F' j → w0.heap.size ≤ j) :
    Hp w0 (w.setCell ⟨gd, i, none⟩ x) c gd gb n d0 p0 v0 Fs0 (up d i d') (up p i p') v (up Fs i F') := by
  refine ⟨h.turn.trans (Turn.setCell w (FF gd gb n Fs0) ⟨gd, i, none⟩ x (.inl rfl)) fun _ _ q => q, fun j q => ?_, fun j q => ?_⟩
  · rcases q with q | q | q | ⟨k, hk, q | q | q | q⟩
    · exact h.al j (.inl q)
    · exact h.al j (.inr (.inl q))
    · exact h.al j (.inr (.inr (.inl q)))
    · by_cases e : k = i
      · subst e
        rw [up_same] at q
        right; omega
      · rw [up_other _ _ e] at q
        exact h.al j (.inr (.inr (.inr ⟨k, hk, .inl q⟩)))
    · by_cases e : k = i
      · subst e
        rw [up_same] at q
        right; omega
      · rw [up_other _ _ e] at q
        exact h.al j (.inr (.inr (.inr ⟨k, hk, .inr (.inl q)⟩)))
    · by_cases e : k = i
      · subst e
        rw [up_same] at q
        exact .inr (h3 j q)
      · rw [up_other _ _ e] at q
        exact h.al j (.inr (.inr (.inr ⟨k, hk, .inr (.inr (.inl q))⟩)))
    · exact h.al j (.inr (.inr (.inr ⟨k, hk, .inr (.inr (.inr q))⟩)))
  · rcases q with q | q | ⟨k, hk, q⟩
    · exact h.ff j (.inl q)
    · exact h.ff j (.inr (.inl q))
    · by_cases e : k = i
      · subst e
        rw [up_same] at q
        exact .inr (h3 j q)
      · rw [up_other _ _ e] at q
        exact h.ff j (.inr (.inr ⟨k, hk, q⟩))
theorem Hp.putV (h : Hp w0 w c gd gb n d0 p0 v0 Fs0 d p v Fs) {i : Nat} {u : Value} (t : Turn (fun j => j = gb) w w') (hu : ∀ j, u.ownBlock = some j → Al c gd gb n d p v Fs j ∨ w0.heap.size ≤ j) :
    Hp w0 w' c gd gb n d0 p0 v0 Fs0 d p (up v i u) Fs := by
  refine ⟨h.turn.trans t fun j _ q => .inr (.inl q), fun j q => ?_, h.ff⟩
  rcases q with q | q | q | ⟨k, hk, q | q | q | q⟩
  · exact h.al j (.inl q)
  · exact h.al j (.inr (.inl q))
  · exact h.al j (.inr (.inr (.inl q)))
  · exact h.al j (.inr (.inr (.inr ⟨k, hk, .inl q⟩)))
  · exact h.al j (.inr (.inr (.inr ⟨k, hk, .inr (.inl q)⟩)))
  · exact h.al j (.inr (.inr (.inr ⟨k, hk, .inr (.inr (.inl q))⟩)))
  · by_cases e : k = i
    · subst e
      rw [up_same] at q
      rcases hu j q with a | a
      · exact h.al j a
      · exact .inr a
    · rw [up_other _ _ e] at q
      exact h.al j (.inr (.inr (.inr ⟨k, hk, .inr (.inr (.inr q))⟩)))
end
section
variable {w w' : World} {c gd gb n cd cb : Nat} {L : Int} {D : Nat → Int} {s : Nat → DS} {d p : Nat → Nat} {v : Nat → Value} {Fs : Nat → Nat → Prop}
theorem turn_bag (w : World) (gb i : Nat) (x u : Value) : Turn (fun j => j = gb) w ((w.setCell ⟨gb, i * 2, none⟩ x).setCell ⟨gb, i * 2 + 1, none⟩ u) :=
  (Turn.setCell w (fun j => j = gb) ⟨gb, i * 2, none⟩ x rfl).trans (Turn.setCell _ (fun j => j = gb) ⟨gb, i * 2 + 1, none⟩ u rfl) fun _ _ q => q
/-- No readings in a bag any more. -/
theorem CrowdX.putE (h : CrowdX w c gd gb n cd cb L D s d p v Fs) {i : Nat} (hi : i < n) : CrowdX (w.setCell ⟨gb, i * 2 + 1, none⟩ (.slice none 0 0)) c gd gb n cd cb L D (up s i ((s i).1, (s i).2.1, [])) d p (up v i (.slice none 0 0)) Fs := by
  obtain ⟨cs, q1, q2⟩ := h.ds
  obtain ⟨cs2, r1, r2⟩ := h.bs
  obtain ⟨c1, c2, c3, c4⟩ := h.cne
  have t : Turn (fun j => j = gb) w (w.setCell ⟨gb, i * 2 + 1, none⟩ (.slice none 0 0)) := Turn.setCell w (fun j => j = gb) ⟨gb, i * 2 + 1, none⟩ _ rfl
  have hz2 := (Array.getElem?_eq_some_iff.1 (r2 i hi).2).1
  refine ⟨h.blk.turned t c2, ⟨cs, q1.turned t c3, q2⟩, ⟨_, r1.set (i * 2 + 1) _, fun k hk => ?_⟩, fun k hk => ?_, fun k hk => ?_, fun k hk j hj => ?_, h.cne, h.dne, h.sep, h.disj⟩
  · simp only [Array.getElem?_setIfInBounds]
    by_cases e : k = i
    · subst e
      rw [if_neg (by omega), if_pos rfl, if_pos hz2, up_same]
      exact ⟨(r2 k hk).1, rfl⟩
    · rw [if_neg (by omega), if_neg (by omega), up_other _ _ e]
      exact r2 k hk
  · have e : (up s i ((s i).1, (s i).2.1, []) k).1 = (s k).1 ∧ (up s i ((s i).1, (s i).2.1, []) k).2.1 = (s k).2.1 := by
      by_cases e : k = i
      · subst e; rw [up_same]; exact ⟨rfl, rfl⟩
      · rw [up_other _ _ e]; exact ⟨rfl, rfl⟩
    rw [e.1, e.2]
    exact (h.dig k hk).off t (h.dne k hk).2.1 (h.dne k hk).2.2.2 fun j hj e => by subst e; exact (c4 k hk).2.2 hj
  · by_cases e : k = i
    · subst e
      rw [up_same, up_same]
      exact Nds.nil _
    · rw [up_other _ _ e, up_other _ _ e]
      exact (h.nds k hk).turned t fun j hj => (h.vlt k hk j hj).2.2.1
  · by_cases e : k = i
    · subst e
      rw [up_same] at hj
      cases hj
    · rw [up_other _ _ e] at hj
      have := h.vlt k hk j hj
      exact ⟨by simpa using this.1, this.2⟩
/-- What is read of a crowd. -/
theorem CrowdX.cells (h : CrowdX w c gd gb n cd cb L D s d p v Fs) {i : Nat} (hi : i < n) : w.cell? ⟨c, 1, none⟩ = some (.slice (some ⟨gd, 0, none⟩) n cd) ∧ w.cell? ⟨c, 2, none⟩ = some (.slice (some ⟨gb, 0, none⟩) n cb) ∧ c < w.heap.size ∧ gd < w.heap.size ∧ gb < w.heap.size ∧
    w.cell? ⟨gd, i, none⟩ = some (.pointer (some ⟨d i, 0, none⟩)) ∧ w.cell? ⟨gb, i * 2, none⟩ = some (.int .i64 L) ∧ w.cell? ⟨gb, i * 2 + 1, none⟩ = some (v i) ∧ w.frozen? ⟨gd, i, none⟩ = false ∧ w.frozen? ⟨gb, i * 2, none⟩ = false ∧ w.frozen? ⟨gb, i * 2 + 1, none⟩ = false := by
  obtain ⟨cs, q1, q2⟩ := h.ds
  obtain ⟨cs2, r1, r2⟩ := h.bs
  exact ⟨h.blk.cell 1, h.blk.cell 2, h.blk.lt, q1.lt, r1.lt, by rw [q1.cell]; exact q2 i hi, by rw [r1.cell]; exact (r2 i hi).1, by rw [r1.cell]; exact (r2 i hi).2, q1.free _, r1.free _, r1.free _⟩
/-- What lies below. -/
theorem CrowdX.bnd (h : CrowdX w c gd gb n cd cb L D s d p v Fs) {B : Nat} (hB : w.heap.size ≤ B) : ∀ j, Al c gd gb n d p v Fs j → j < B := fun j hj => by have := h.lt j hj; omega
end
end CW
end Go.Proofs.YteebghoijaaakaaGreat
/- The law TopStores: a place within so many; may a crowd be tried. By the prover of this repo. -/
namespace Go.Proofs.YteebghoijaaakaaGreat
open Go.RowKit
open TwigM RollM StoM

theorem at_c (i n : Int) (w : World) (h1 : 1 ≤ n) (h2 : n ≤ 1000000) (h3 : -9223372036854775808 ≤ i) (h4 : i ≤ 9223372036854775807) :
    Calls Tryz.prog 8 #[.int .i64 i, .int .i64 n] w fun e w' => e = .returned (.int .i64 (TopM.atF i n)) ∧ w = w' := by
  have hr := TopM.at_rng i h1
  unfold TopM.atF at *
  have a1 := Int.lt_tmod_of_pos i (show 0 < n by omega)
  have a2 := Int.tmod_lt_of_pos i (show 0 < n by omega)
  have hn0 : ¬ n = 0 := by omega
  have hn1 : ¬ n = -1 := by omega
  have e0 : (n == 0) = false := by simpa using hn0
  have e1 : (n == -1) = false := by simpa using hn1
  go_enter Tryz.func8, Tryz.ntmps8
  go_wp2_with fail
  go_ret
  exact ⟨ret_congr (int_congr (Int.tmod_eq_emod_of_nonneg (by omega)).symm), rfl⟩
end Go.Proofs.YteebghoijaaakaaGreat
/- The walks of layer 29, on: the letter of bytes, by its function. By the prover of this repo. -/
namespace Go.Proofs.YteebghoijaaakaaGreat
open Go.RowKit
open VaryM SealM

theorem open_bd (x : ByteArray) : (openRes x).1.size ≤ x.size := by
  unfold openRes
  split
  · exact Nat.zero_le _
  · split
    · simp
    · exact Nat.zero_le _
theorem cut_bd (s p : ByteArray) : (cutP s p).1.size ≤ s.size := by
  unfold cutP
  split <;> simp
theorem dec_key (e : Int) (A : Let) : Value.tuple #[lv (if e = 0 then A else ⟨0, 0, 0, ⟨#[]⟩⟩), .int .i64 e] = Value.tuple #[lv (if e = 0 then (A, 0) else ((⟨0, 0, 0, ⟨#[]⟩⟩ : Let), e)).1, .int .i64 (if e = 0 then (A, (0 : Int)) else ((⟨0, 0, 0, ⟨#[]⟩⟩ : Let), e)).2] := by
  by_cases h : e = 0
  · subst h; rfl
  · rw [if_neg h, if_neg h]
theorem letter_decode (all : ByteArray) (W : World) (hs : all.size ≤ 1000000000) : Calls Tryz.prog 65 #[.string all] W fun r w' => r = .returned (.tuple #[lv (decF all).1, .int .i64 (decF all).2]) ∧ Below W.heap.size W w' := by
  refine (letter_decode_go all _ _ W hs _ _ _ _ _ _ _ _ _ _ _ _ _ _ _ _ _ _ _ _ _ _ _ rfl (open_bd _) rfl rfl (cut_bd _ _) rfl rfl (num_bd _ _).2.2 rfl (num_bd _ _).2.2 rfl rfl rfl (num_bd _ _).2.2 (num_bd _ _).1 (num_bd _ _).2.1 rfl rfl (num_bd _ _).2.2 rfl rfl rfl).mono ?_
  rintro r w' ⟨hr, hb⟩
  exact ⟨hr.trans (congrArg Ending.returned (dec_key _ _)), hb⟩
end Go.Proofs.YteebghoijaaakaaGreat
/- Bits of sets: which set is within another one. Plain facts. By the prover of this repo. -/
namespace Go.Proofs.YteebghoijaaakaaGreat

theorem andNot_u64 (a b : Nat) (ha : a < 18446744073709551616) (hb : b < 18446744073709551616) : ∃ c : Nat, bits .andNot .u64 (a : Int) (b : Int) = (c : Int) ∧ c < 18446744073709551616 ∧ ∀ j, c.testBit j = (a.testBit j && !b.testBit j) := by
  refine ⟨(BitVec.ofInt 64 (a : Int) &&& ~~~ BitVec.ofInt 64 (b : Int)).toNat, ?_, BitVec.isLt _, ?_⟩
  · show IntKind.u64.wrap ((BitVec.ofInt 64 (a : Int) &&& ~~~ BitVec.ofInt 64 (b : Int)).toNat : Int) = _
    rw [IntKind.wrap_u64]
    have := (BitVec.ofInt 64 (a : Int) &&& ~~~ BitVec.ofInt 64 (b : Int)).isLt
    omega
  · intro j
    rw [← BitVec.getLsbD, BitVec.getLsbD_and, BitVec.getLsbD_not, BitVec.getLsbD, BitVec.getLsbD, toNat_u64 a ha, toNat_u64 b hb]
    by_cases hj : j < 64
    · simp [hj]
    · have : a.testBit j = false := Nat.testBit_lt_two_pow (Nat.lt_of_lt_of_le ha (by rw [show (18446744073709551616 : Nat) = 2 ^ 64 from rfl]; exact Nat.pow_le_pow_right (by omega) (by omega)))
      simp [hj, this]

theorem nat_zero_iff (c : Nat) : c = 0 ↔ ∀ j, c.testBit j = false :=
  ⟨fun h j => by rw [h]; simp, fun h => Nat.eq_of_testBit_eq fun j => by rw [h j]; simp⟩

theorem within_iff (a b : Nat) (ha : a < 18446744073709551616) (hb : b < 18446744073709551616) : withinF (a : Int) (b : Int) = true ↔ ∀ j, a.testBit j = true → b.testBit j = true := by
  obtain ⟨c, hc, _, hj⟩ := andNot_u64 a b ha hb
  unfold withinF
  rw [hc, beq_iff_eq]
  constructor
  · intro h j h1
    have h0 : c = 0 := by omega
    have := (nat_zero_iff c).1 h0 j
    rw [hj j, h1] at this
    simpa using this
  · intro h
    have h0 : c = 0 := (nat_zero_iff c).2 fun j => by
      rw [hj j]
      by_cases h1 : a.testBit j = true
      · rw [h1, h j h1]; rfl
      · simp at h1; rw [h1]; rfl
    omega

theorem has_zero (i : Int) : hasF 0 i = false := by
  unfold hasF
  simp
theorem with_zero (i : Int) (h : 0 ≤ i ∧ i < 48) : withF 0 i = 2 ^ i.toNat := by
  unfold withF
  rw [if_pos ⟨h, has_zero i⟩]
  simp
/-- A sensor alone is within a set just if the set has it. -/
theorem within_one (i d : Int) (h : 0 ≤ i ∧ i < 48) (h0 : 0 ≤ d) (h1 : d < 18446744073709551616) : withinF (withF 0 i) d = hasF d i := by
  obtain ⟨m, rfl⟩ := Int.eq_ofNat_of_zero_le h0
  rw [with_zero i h, pow_i, has_nat m i h.1 h.2, Bool.eq_iff_iff, within_iff _ _ (by have := pow48 i h.2; omega) (by omega)]
  constructor
  · intro k; exact k i.toNat (by simp)
  · intro k j hj
    rw [Nat.testBit_two_pow] at hj
    simp at hj
    subst hj
    exact k
end Go.Proofs.YteebghoijaaakaaGreat
/- The plain laws of layer 29: both ways to read a letter are one; what is written is read again. By the prover of this repo. -/
namespace Go.Proofs.YteebghoijaaakaaGreat
open VaryM SealM

theorem failF_ne {b : Bool} {f e : Int} (h : e ≠ 0) : failF b f e = e := if_neg fun k => h k.2
theorem failF_true {f : Int} : failF true f 0 = f := if_pos ⟨rfl, rfl⟩
theorem failF_false {f e : Int} : failF false f e = e := if_neg (by simp)
theorem numF_ne {e : Int} {t : ByteArray} (h : e ≠ 0) : numF e t = (0, e, t) := if_neg h
theorem numF_get {t : ByteArray} {v sz e : Nat} (hg : get t.data.toList = (v, sz, e)) : numF 0 t = ((v : Int), (e : Int), t.extract sz t.size) := by
  unfold numF; rw [if_pos rfl, hg]

/-- The steps of letter.Decode, from number i on. -/
def dF3 (a b d e : Int) (t : ByteArray) : Let × Int :=
  let n := numF e t
  let e9 := failF (decide (1048576 < n.1)) 13 n.2.1
  let e10 := failF (decide ((n.2.2.size : Int) < n.1)) 9 e9
  let e11 := failF (decide (n.1 < (n.2.2.size : Int))) 11 e10
  if e11 = 0 then (⟨a, b, d, n.2.2⟩, 0) else (noLet, e11)
def dF2 (a b ow e : Int) (t : ByteArray) : Let × Int :=
  let n := numF e t
  dF3 a b n.1 (failF (coverF ow n.1) 10 n.2.1) n.2.2
def dF1 (a e : Int) (t : ByteArray) : Let × Int :=
  let n := numF e t
  dF2 a n.1 (ofF [n.1]).1 (failF (!(ofF [n.1]).2) 10 n.2.1) n.2.2
def dF0 (e : Int) (t : ByteArray) : Let × Int :=
  let n := numF e t
  dF1 n.1 n.2.1 n.2.2
theorem decF_steps (all : ByteArray) : decF all = dF0 (failF (!(cutP (openRes all).1 magic).2) 10 (failF (decide (((openRes all).1.size : Int) < 4)) 9 (openRes all).2)) (cutP (openRes all).1 magic).1 := rfl

theorem dF3_ne {a b d e : Int} {t : ByteArray} (h : e ≠ 0) : dF3 a b d e t = (noLet, e) := by
  unfold dF3
  simp only [numF_ne h, failF_ne h, if_neg h]
theorem dF2_ne {a b ow e : Int} {t : ByteArray} (h : e ≠ 0) : dF2 a b ow e t = (noLet, e) := by
  unfold dF2
  simp only [numF_ne h, failF_ne h, dF3_ne h]
theorem dF1_ne {a e : Int} {t : ByteArray} (h : e ≠ 0) : dF1 a e t = (noLet, e) := by
  unfold dF1
  simp only [numF_ne h, failF_ne h, dF2_ne h]
theorem dF0_ne {e : Int} {t : ByteArray} (h : e ≠ 0) : dF0 e t = (noLet, e) := by
  unfold dF0
  simp only [numF_ne h, dF1_ne h]

theorem dF3_ref (a b d : Int) (t : ByteArray) : dF3 a b d 0 t = refT 1 a b d 0 t := by
  obtain ⟨v, sz, e, hg⟩ : ∃ v sz e, get t.data.toList = (v, sz, e) := ⟨_, _, _, rfl⟩
  by_cases he : e = 0
  · subst he
    unfold dF3
    simp only [numF_get hg]
    by_cases hc : 1048576 < (v : Int)
    · rw [refT_cap hg hc, decide_eq_true hc, show ((0 : Nat) : Int) = 0 from rfl, failF_true, failF_ne (show (13 : Int) ≠ 0 by omega), failF_ne (show (13 : Int) ≠ 0 by omega), if_neg (show ¬ (13 : Int) = 0 by omega)]
    · rw [refT_on (k := 0) hg (by simp [badR]) (by simp; omega), decide_eq_false hc, failF_false]
      simp only [refT, show ((0 : Nat) : Int) = 0 from rfl]
      simp only [show (3 : Nat) - 0 = 3 from rfl, if_true, show ¬ (3 : Nat) = 0 from by omega, show ¬ (3 : Nat) = 1 from by omega, show ¬ (3 : Nat) = 2 from by omega, if_false]
      by_cases h1 : ((t.extract sz t.size).size : Int) < v
      · rw [decide_eq_true h1, failF_true, failF_ne (by omega), if_neg (by omega), if_pos h1]
      · rw [decide_eq_false h1, failF_false, if_neg h1]
        by_cases h2 : (v : Int) < ((t.extract sz t.size).size : Int)
        · rw [decide_eq_true h2, failF_true, if_neg (by omega), if_pos h2]
        · rw [decide_eq_false h2, failF_false, if_pos rfl, if_neg h2]
  · have he2 : (e : Int) ≠ 0 := by omega
    rw [refT_err hg he]
    unfold dF3
    simp only [numF_get hg, failF_ne he2, if_neg he2]

theorem dF2_ref (a b : Int) (t : ByteArray) (hb : 0 ≤ b ∧ b < 48) : dF2 a b (withF 0 b) 0 t = refT 2 a b 0 0 t := by
  obtain ⟨v, sz, e, hg⟩ : ∃ v sz e, get t.data.toList = (v, sz, e) := ⟨_, _, _, rfl⟩
  have hv : v < 9223372036854775808 := by have := (get_facts t.data.toList).1; rw [hg] at this; exact this
  unfold dF2
  simp only [numF_get hg]
  by_cases he : e = 0
  · subst he
    have hc : coverF (withF 0 b) (v : Int) = badR (3 - 1) (v : Int) b := by
      unfold coverF
      rw [within_one b v hb (by omega) (by omega)]
      simp [badR]
    rw [hc, show ((0 : Nat) : Int) = 0 from rfl]
    by_cases hbad : badR (3 - 1) (v : Int) b = true
    · rw [hbad, failF_true, dF3_ne (by omega), refT_bad (k := 1) hg hbad]
    · rw [refT_on (k := 1) hg hbad (by simp)]
      simp only [Bool.not_eq_true] at hbad
      rw [hbad, failF_false, dF3_ref]
      rfl
  · have he2 : (e : Int) ≠ 0 := by omega
    rw [refT_err hg he, failF_ne he2, dF3_ne he2]

theorem of_one (b : Int) : ofF [b] = if 0 ≤ b ∧ b < 48 then (withF 0 b, true) else (0, false) := rfl
theorem dF1_ref (a : Int) (t : ByteArray) : dF1 a 0 t = refT 3 a 0 0 0 t := by
  obtain ⟨v, sz, e, hg⟩ : ∃ v sz e, get t.data.toList = (v, sz, e) := ⟨_, _, _, rfl⟩
  unfold dF1
  simp only [numF_get hg, of_one]
  by_cases he : e = 0
  · subst he
    rw [show ((0 : Nat) : Int) = 0 from rfl]
    by_cases hb : 0 ≤ (v : Int) ∧ (v : Int) < 48
    · rw [if_pos hb, refT_on (k := 2) hg (by simp [badR]; omega) (by simp)]
      simp only [Bool.not_true]
      rw [failF_false, dF2_ref _ _ _ hb]
      rfl
    · rw [if_neg hb, refT_bad (k := 2) hg (by simp [badR]; omega)]
      simp only [Bool.not_false]
      rw [failF_true, dF2_ne (by omega)]
  · have he2 : (e : Int) ≠ 0 := by omega
    rw [refT_err hg he, failF_ne he2, dF2_ne he2]
theorem dF0_ref (t : ByteArray) : dF0 0 t = refT 4 0 0 0 0 t := by
  obtain ⟨v, sz, e, hg⟩ : ∃ v sz e, get t.data.toList = (v, sz, e) := ⟨_, _, _, rfl⟩
  unfold dF0
  simp only [numF_get hg]
  by_cases he : e = 0
  · subst he
    rw [show ((0 : Nat) : Int) = 0 from rfl, refT_on (k := 3) hg (by simp [badR]) (by simp), dF1_ref]
    rfl
  · have he2 : (e : Int) ≠ 0 := by omega
    rw [refT_err hg he, dF1_ne he2]

/-- Both ways to read a letter are one. -/
theorem dec_eq (all : ByteArray) : decF all = decR all := by
  rw [decF_steps]
  unfold decR
  generalize openRes all = o
  obtain ⟨t, e⟩ := o
  simp only
  by_cases he : e = 0
  · subst he
    rw [if_neg (by simp)]
    by_cases h4 : t.size < 4
    · rw [if_pos h4, decide_eq_true (by omega), failF_true, failF_ne (by omega), dF0_ne (by omega)]
    · rw [if_neg h4, decide_eq_false (by omega), failF_false]
      by_cases hm : t.extract 0 4 = ⟨#[68, 87, 76, 1]⟩
      · have hc : cutP t magic = (t.extract 4 t.size, true) := if_pos ⟨by show 4 ≤ _; omega, hm⟩
        rw [hc, if_neg (fun h => h hm)]
        simp only [Bool.not_true]
        rw [failF_false]
        exact dF0_ref _
      · have hc : cutP t magic = (t, false) := if_neg (fun h => hm h.2)
        rw [hc, if_pos hm]
        simp only [Bool.not_false]
        rw [failF_true, dF0_ne (by omega)]
  · rw [if_pos he, failF_ne he, failF_ne he, dF0_ne he]
theorem text_drop (a b : ByteArray) : (a ++ b).extract a.size (a ++ b).size = b := str_ext (by rw [extract_drop]; simp)
theorem get_text {m : Nat} (h : m ≤ 9223372036854775807) (r : ByteArray) : get (encStr m ++ r).data.toList = (m, (encStr m).size, 0) := by
  have := get_enc h r.data.toList
  have e : (encStr (m : Int) ++ r).data.toList = enc m ++ r.data.toList := by rw [ByteArray.data_append, Array.toList_append]; simp [encStr]
  rw [e, this]
  rfl
theorem refT_step {k : Nat} {a b d n : Int} {m : Nat} {r : ByteArray} (h : m ≤ 9223372036854775807) (hb : ¬ badR (3 - k) m b = true) (hc : ¬ (3 - k = 3 ∧ 1048576 < (m : Int))) :
    refT (k + 1) a b d n (encStr m ++ r) = refT k (if 3 - k = 0 then m else a) (if 3 - k = 1 then m else b) (if 3 - k = 2 then m else d) (if 3 - k = 3 then m else n) r := by
  rw [refT_on (get_text h r) hb hc, text_drop]

theorem has_range {s i : Int} (h : hasF s i = true) : 0 ≤ i ∧ i < 48 := by
  unfold hasF at h
  simp only [decide_eq_true_eq] at h
  omega
theorem open_back (all : ByteArray) : (openRes all).2 = 0 → sealed (openRes all).1 = all := by
  unfold openRes
  by_cases h4 : all.size < 4
  · rw [if_pos h4]; intro h; simp at h
  · rw [if_neg h4]
    by_cases hy : sumStr (SealM.of (all.data.toList.take (all.size - 4))) = all.extract (all.size - 4) all.size
    · rw [if_pos hy]; intro _; exact (sealed_iff all (by omega)).2 hy
    · rw [if_neg hy]; intro h; simp at h
/-- What is written is read as it was. -/
theorem dec_enc (x : Let) (h : x.Wf) (hr : rightF x = true) : decR (sealed (plainF x)) = (x, 0) := by
  have hp := right_parts hr
  obtain ⟨ep, fr, co, body⟩ := x
  simp only at hp
  have h1 := h.e1
  have h5 := h.c0
  simp only at h1 h5
  have hhas : hasF co fr = true := by unfold rightF at hr; simp only [Bool.and_eq_true] at hr; exact hr.2.1
  obtain ⟨e', rfl⟩ := Int.eq_ofNat_of_zero_le hp.1
  obtain ⟨f', rfl⟩ := Int.eq_ofNat_of_zero_le hp.2.1
  obtain ⟨c', rfl⟩ := Int.eq_ofNat_of_zero_le h5
  unfold decR
  rw [open_sealed]
  have hpl : plainF ⟨(e' : Int), (f' : Int), (c' : Int), body⟩ = (⟨#[68, 87, 76, 1]⟩ : ByteArray) ++ (encStr e' ++ (encStr f' ++ (encStr c' ++ (encStr body.size ++ body)))) := by
    rw [← plain_join]; exact str_ext (by simp)
  have hs4 : ¬ (plainF ⟨(e' : Int), (f' : Int), (c' : Int), body⟩).size < 4 := by
    rw [hpl, ByteArray.size_append, show (⟨#[68, 87, 76, 1]⟩ : ByteArray).size = 4 from rfl]; omega
  have hm : (plainF ⟨(e' : Int), (f' : Int), (c' : Int), body⟩).extract 0 4 = ⟨#[68, 87, 76, 1]⟩ := by
    rw [hpl]; exact str_ext (by rw [extract_take]; simp)
  have hd : (plainF ⟨(e' : Int), (f' : Int), (c' : Int), body⟩).extract 4 (plainF ⟨(e' : Int), (f' : Int), (c' : Int), body⟩).size = encStr e' ++ (encStr f' ++ (encStr c' ++ (encStr body.size ++ body))) := by
    rw [hpl]; exact text_drop _ _
  dsimp only
  rw [if_neg (by simp), if_neg hs4, if_neg (fun k => k hm), hd]
  rw [refT_step (k := 3) (by omega) (by simp [badR]) (by simp), refT_step (k := 2) (by omega) (by simp [badR]; omega) (by simp), refT_step (k := 1) (by omega) (by simp [badR, hhas]; omega) (by simp), refT_step (k := 0) (by omega) (by simp [badR]) (by simp; omega)]
  simp [refT]

theorem get_split {t : ByteArray} {v sz : Nat} (h : get t.data.toList = (v, sz, 0)) : t = encStr v ++ t.extract sz t.size := by
  obtain ⟨h1, h2⟩ := get_back h
  refine str_ext ?_
  rw [ByteArray.data_append, Array.toList_append, extract_drop]
  have : (encStr (v : Int)).data.toList = t.data.toList.take sz := by rw [h2]; simp [encStr]
  rw [this, List.take_append_drop]

/-- Whatever is read is what was written. -/
theorem refT_back {k : Nat} {a b d n : Int} {t : ByteArray} {x : Let} (h : refT (k + 1) a b d n t = (x, 0)) : ∃ v sz, get t.data.toList = (v, sz, 0) ∧ badR (3 - k) v b = false ∧ ¬ (3 - k = 3 ∧ 1048576 < (v : Int)) ∧
    refT k (if 3 - k = 0 then v else a) (if 3 - k = 1 then v else b) (if 3 - k = 2 then v else d) (if 3 - k = 3 then v else n) (t.extract sz t.size) = (x, 0) := by
  obtain ⟨v, sz, e, hg⟩ : ∃ v sz e, get t.data.toList = (v, sz, e) := ⟨_, _, _, rfl⟩
  by_cases he : e = 0
  · subst he
    by_cases hb : badR (3 - k) v b = true
    · rw [refT_bad hg hb] at h; simp at h
    · by_cases hc : 3 - k = 3 ∧ 1048576 < (v : Int)
      · have hk : k = 0 := by omega
        subst hk
        rw [refT_cap hg hc.2] at h; simp at h
      · rw [refT_on hg hb hc] at h
        exact ⟨v, sz, hg, by simpa using hb, hc, h⟩
  · rw [refT_err hg he] at h
    simp only [Prod.mk.injEq] at h
    omega
theorem dec_back (all : ByteArray) (x : Let) (hs : all.size ≤ 1000000000) (h : decR all = (x, 0)) : x.Wf ∧ rightF x = true ∧ sealed (plainF x) = all := by
  unfold decR at h
  have hop := open_back all
  generalize openRes all = o at h hop
  obtain ⟨t, e⟩ := o
  simp only at h hop
  by_cases he : e = 0
  · subst he
    rw [if_neg (by simp)] at h
    by_cases h4 : t.size < 4
    · rw [if_pos h4] at h; simp at h
    · rw [if_neg h4] at h
      by_cases hm : t.extract 0 4 = ⟨#[68, 87, 76, 1]⟩
      · rw [if_neg (fun k => k hm)] at h
        have ht : t = (⟨#[68, 87, 76, 1]⟩ : ByteArray) ++ t.extract 4 t.size := by
          refine str_ext ?_
          rw [ByteArray.data_append, Array.toList_append, extract_drop, ← hm, extract_take, List.take_append_drop]
        have hall := hop rfl
        clear hop hm h4
        generalize t.extract 4 t.size = u0 at h ht
        obtain ⟨v0, z0, g0, _, _, h⟩ := refT_back (k := 3) h
        have s0 := get_split g0
        have l0 := (get_facts u0.data.toList).1
        rw [g0] at l0
        generalize u0.extract z0 u0.size = u1 at h s0
        obtain ⟨v1, z1, g1, b1, _, h⟩ := refT_back (k := 2) h
        have s1 := get_split g1
        generalize u1.extract z1 u1.size = u2 at h s1
        obtain ⟨v2, z2, g2, b2, _, h⟩ := refT_back (k := 1) h
        have s2 := get_split g2
        generalize u2.extract z2 u2.size = u3 at h s2
        obtain ⟨v3, z3, g3, _, c3, h⟩ := refT_back (k := 0) h
        have s3 := get_split g3
        generalize u3.extract z3 u3.size = u4 at h s3
        simp only [show (3 : Nat) - 3 = 0 from rfl, show (3 : Nat) - 2 = 1 from rfl, show (3 : Nat) - 1 = 2 from rfl, show (3 : Nat) - 0 = 3 from rfl, show ¬ (0 : Nat) = 1 from by omega, show ¬ (0 : Nat) = 2 from by omega, show ¬ (0 : Nat) = 3 from by omega,
          show ¬ (1 : Nat) = 0 from by omega, show ¬ (1 : Nat) = 2 from by omega, show ¬ (1 : Nat) = 3 from by omega, show ¬ (2 : Nat) = 0 from by omega, show ¬ (2 : Nat) = 1 from by omega, show ¬ (2 : Nat) = 3 from by omega, show ¬ (3 : Nat) = 0 from by omega,
          show ¬ (3 : Nat) = 1 from by omega, show ¬ (3 : Nat) = 2 from by omega, if_true, if_false, true_and] at h b1 b2 c3
        simp only [refT] at h
        by_cases q1 : (u4.size : Int) < v3
        · rw [if_pos q1] at h; simp at h
        · rw [if_neg q1] at h
          by_cases q2 : (v3 : Int) < (u4.size : Int)
          · rw [if_pos q2] at h; simp at h
          · rw [if_neg q2] at h
            simp only [Prod.mk.injEq, and_true] at h
            have e3 : v3 = u4.size := by omega
            simp only [badR, show ¬ (1 : Nat) = 2 from by omega, show ¬ (2 : Nat) = 1 from by omega, decide_false, decide_true, Bool.false_and, Bool.true_and, Bool.or_false, Bool.false_or, Bool.not_eq_false', Bool.or_eq_false_iff, decide_eq_true_eq] at b1 b2
            obtain ⟨b2a, b2b⟩ := b2
            have hsz : u4.size ≤ all.size := by
              rw [← hall, sealed_size, ht, s0, s1, s2, s3]
              simp only [ByteArray.size_append]
              omega
            subst h
            refine ⟨⟨by simp only; omega, by simp only; omega, by simp only; omega, by simp only; omega, by simp only; omega, by simp only; omega, by simp only; omega⟩, ?_, ?_⟩
            · unfold rightF
              simp only [b2b, decide_eq_true b2a, Bool.true_and, Bool.and_eq_true, decide_eq_true_eq]
              omega
            · rw [← hall]
              congr 1
              rw [← plain_join, ht, s0, s1, s2, s3, e3]
              exact str_ext (by simp)
      · rw [if_pos hm] at h; simp at h
  · rw [if_pos he] at h
    simp only [Prod.mk.injEq] at h
    exact absurd h.2 he
end Go.Proofs.YteebghoijaaakaaGreat
/- A letter that was written is read again, as both are walked. By the prover of this repo. -/
namespace Go.Proofs.YteebghoijaaakaaGreat
open Go.RowKit
open VaryM SealM

theorem letter_back (x : Let) (h : x.Wf) (hr : rightF x = true) (w : World) (hs : (sealed (plainF x)).size ≤ 1000000000) :
    Calls Tryz.prog 65 #[.string (sealed (plainF x))] w fun e w' => e = .returned (.tuple #[lv x, .int .i64 0]) ∧ Below w.heap.size w w' := by
  have h1 := letter_decode (sealed (plainF x)) w hs
  rw [dec_eq, dec_enc x h hr] at h1
  exact h1
end Go.Proofs.YteebghoijaaakaaGreat
/- The walks of Same: of lists of nodes, of pools, of digests. By the prover of this repo. -/
namespace Go.Proofs.YteebghoijaaakaaGreat
open Go.RowKit
open TwigM RollM StoM

set_option maxRecDepth 100000 in
theorem pool_same (p q : Nat) (kd kd' L : Int) (l : List Nd) (F F' : Nat → Prop) (w : World) (h : PoolAt w p kd L l F) (h' : PoolAt w q kd' L l F') :
    Calls Tryz.prog 66 #[.pointer (some ⟨p, 0, none⟩), .pointer (some ⟨q, 0, none⟩)] w fun e w' => e = .returned (.bool true) ∧ Below w.heap.size w w' := by
  have hA := hide (pool_l_same p kd L l F w h)
  have hB := hide (pool_l_same q kd' L l F' w h')
  have hS := hide (pool_snap p kd L l F w h)
  have hT := hide (fun W (hW : Below w.heap.size w W) => pool_snap q kd' L l F' W (h'.kept hW))
  have hll := h.len
  obtain ⟨n, hn⟩ : ∃ n, Hid (l.length = n) := ⟨_, rfl⟩
  have hE : Hid (∀ (A B : Option Addr) (c d : Nat) (W : World), Rd W A l.length 2 (ndc l) → Rd W B l.length 2 (ndc l) → Calls Tryz.prog 118 #[.slice A l.length c, .slice B l.length d] W fun e w' => e = .returned (.bool true) ∧ Below W.heap.size W w') := fun A B c d W ha hb => (roll_same A B c d l l W ha hb hll hll).mono fun e w' h => ⟨by rw [h.1]; simp, h.2⟩
  rw [hn.out] at hS hT hE
  clear h h' hll
  go_enter Tryz.func66, Tryz.ntmps66
  go_wp2_with fail
  refine Calls.mono hA.out ?_
  rintro e w1 ⟨rfl, rfl⟩
  go_wp2_with fail
  refine Calls.mono hB.out ?_
  rintro e w1 ⟨rfl, rfl⟩
  go_wp2_with fail
  refine Calls.mono hS.out ?_
  rintro e w1 ⟨v, rfl, hv, hb1⟩
  have hT1 := hide (hT.out w1 hb1)
  obtain ⟨A, c, rfl, q1, q2, q3⟩ := own_form hv
  have hv := hide hv
  have hb1 := hide hb1
  go_wp2_with fail
  refine Calls.mono hT1.out ?_
  rintro e w2 ⟨u, rfl, hu, hb2⟩
  obtain ⟨B, d, rfl, r1, r2, r3⟩ := own_form hu
  have hv2 := own_kept hv.out hb2
  have hX := hide (hE.out A B c d w2 (by have := own_nds (l := l) (by rw [hn.out]; exact hv2); obtain ⟨A', c', e, -, -, -, hr⟩ := this; cases e; exact hn.out ▸ hr) (by have := own_nds (l := l) (by rw [hn.out]; exact hu); obtain ⟨A', c', e, -, -, -, hr⟩ := this; cases e; exact hn.out ▸ hr))
  have hb2 := hide (hb1.out.trans (hb2.mono hb1.out.size))
  clear hv hv2 hu q1 q2 q3 r1 r2 r3
  go_wp2_with fail
  refine Calls.mono hX.out ?_
  rintro e w3 ⟨rfl, hb3⟩
  have hb3 := hide (hb2.out.trans (hb3.mono hb2.out.size))
  go_wp2_with fail
  go_ret
  exact ⟨rfl, hb3.out⟩
set_option maxRecDepth 100000 in
set_option maxHeartbeats 1000000 in
theorem digest_same (d e p q : Nat) (K kd kd' L : Int) (l : List Nd) (F F' : Nat → Prop) (w : World) (h : DigAt w d p K kd L l F) (h' : DigAt w e q K kd' L l F') :
    Calls Tryz.prog 23 #[.pointer (some ⟨d, 0, none⟩), .pointer (some ⟨e, 0, none⟩)] w fun r w' => r = .returned (.bool true) ∧ Below w.heap.size w w' := by
  have c0 := h.blk.cell 0
  have c1 := h.blk.cell 1
  have d0 := h'.blk.cell 0
  have d1 := h'.blk.cell 1
  have hdl := h.lt.1
  have hel := h'.lt.1
  have hS := hide (fun (e : Later w.heap.size w) => pool_same p q kd kd' L l F F' e.val (h.pool.kept e.property) (h'.pool.kept e.property))
  clear h h'
  go_enter Tryz.func23, Tryz.ntmps23
  go_wp2_with fail
  refine wp_region_later (by kernel_rfl) (by kernel_rfl) ?_
  repeat (go_big_quiet_step (first
    | (go_at_call 66; (with_reducible exact calls_later (hS.out _)))
    | exact rfl))
  refine wpQuiet_nil ?_
  rintro _ ⟨e3, rfl⟩
  have hb1 := e3.property
  generalize e3.val = W1 at *
  go_wp2_with fail
  go_ret
  exact ⟨rfl, hb1⟩
end Go.Proofs.YteebghoijaaakaaGreat
/- The law TopStores: may a crowd be tried. By the prover of this repo. -/
namespace Go.Proofs.YteebghoijaaakaaGreat
open Go.RowKit
open TwigM RollM StoM

/-- May a crowd be tried? -/
def fewB (l : Int) (nk nh : Nat) (m : Int) : Bool := decide (1 ≤ l ∧ l ≤ 48 ∧ 1 ≤ nk ∧ nk ≤ 5 ∧ (nh : Int) ≤ m)
theorem few_c (l m : Int) (A B : Option Addr) (nk ck nh ch : Nat) (w : World) :
    Calls Tryz.prog 4 #[.int .i64 l, .slice A nk ck, .slice B nh ch, .int .i64 m] w fun e w' => e = .returned (.bool (fewB l nk nh m)) ∧ w = w' := by
  by_cases h1 : 1 ≤ l
  · by_cases h2 : l ≤ 48
    · by_cases h3 : (1 : Int) ≤ (nk : Int)
      · by_cases h4 : (nk : Int) ≤ 5
        · by_cases h5 : (nh : Int) ≤ m
          · have hb : Hid (fewB l nk nh m = true) := decide_eq_true ⟨h1, h2, by omega, by omega, h5⟩
            go_enter Tryz.func4, Tryz.ntmps4
            go_wp2_with fail
            go_ret
            exact ⟨by rw [hb.out]; rfl, rfl⟩
          · have hb : Hid (fewB l nk nh m = false) := decide_eq_false fun q => h5 q.2.2.2.2
            go_enter Tryz.func4, Tryz.ntmps4
            go_wp2_with fail
            go_ret
            exact ⟨by rw [hb.out]; rfl, rfl⟩
        · have hb : Hid (fewB l nk nh m = false) := decide_eq_false fun q => h4 (by have := q.2.2.2.1; omega)
          go_enter Tryz.func4, Tryz.ntmps4
          go_wp2_with fail
          go_ret
          exact ⟨by rw [hb.out]; rfl, rfl⟩
      · have hb : Hid (fewB l nk nh m = false) := decide_eq_false fun q => h3 (by have := q.2.2.1; omega)
        go_enter Tryz.func4, Tryz.ntmps4
        go_wp2_with fail
        go_ret
        exact ⟨by rw [hb.out]; rfl, rfl⟩
    · have hb : Hid (fewB l nk nh m = false) := decide_eq_false fun q => h2 q.2.1
      go_enter Tryz.func4, Tryz.ntmps4
      go_wp2_with fail
      go_ret
      exact ⟨by rw [hb.out]; rfl, rfl⟩
  · have hb : Hid (fewB l nk nh m = false) := decide_eq_false fun q => h1 q.1
    go_enter Tryz.func4, Tryz.ntmps4
    go_wp2_with fail
    go_ret
    exact ⟨by rw [hb.out]; rfl, rfl⟩
end Go.Proofs.YteebghoijaaakaaGreat

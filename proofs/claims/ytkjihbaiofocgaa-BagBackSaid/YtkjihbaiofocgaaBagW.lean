/- Lists of readings as slices, a bag in memory, and what a call may turn: all but some blocks are as they were. By the prover of this repo. -/
import Derived.Test.YtkjihbaiofocgaaBagM
import Derived.Test.YtkjihbaiofocgaaOwn
import Derived.Test.YtkjihbaiofocgaaTwigR2
import Derived.Test.YtkjihbaiofocgaaTwigW2
import Derived.Laws.StructEq
import Derived.Deep.RegionHeldLaw
import Derived.Deep.AppendLies
namespace Go.Proofs.Ytkjihbaiofocgaa
open Go.RowKit
open TwigM BagM

theorem elRg : Elem Try.prog 22 31 (.agg #[.int .i64 0, .int .i64 0]) 2 16 := ⟨Try.underlying22, by kernel_rfl, rfl, by omega⟩
abbrev nv (p : Rg) : Value := .agg #[.int .i64 p.1, .int .i64 p.2]
/-- The cells of a list of readings. -/
def ndc (l : List Rg) (j : Nat) : Value := .int .i64 (if j % 2 = 0 then (l.getD (j / 2) (0, 0)).1 else (l.getD (j / 2) (0, 0)).2)
def ndv (l : List Rg) : List Value := l.flatMap fun p => [.int .i64 p.1, .int .i64 p.2]
/-- Both parts of each in their type's bounds. -/
def NdWf (l : List Rg) : Prop := ∀ p ∈ l, -9223372036854775808 ≤ p.1 ∧ p.1 ≤ 9223372036854775807 ∧ -9223372036854775808 ≤ p.2 ∧ p.2 ≤ 9223372036854775807

/-- A slice value reads as a list of readings. -/
def Nds (w : World) (v : Value) (l : List Rg) : Prop := ∃ A c, v = .slice A l.length c ∧ (A = none → l.length = 0) ∧ l.length ≤ c ∧ c ≤ maxLen ∧ Rd w A l.length 2 (ndc l)
section
variable {w w' : World} {v : Value} {l : List Rg}
theorem Nds.kept (h : Nds w v l) (hb : Below w.heap.size w w') : Nds w' v l := by
  obtain ⟨A, c, h1, h2, h3, h4, h5⟩ := h
  exact ⟨A, c, h1, h2, h3, h4, h5.kept hb⟩
theorem Nds.nil (w : World) : Nds w (.slice none 0 0) [] := ⟨none, 0, rfl, fun _ => rfl, Nat.le_refl _, by unfold maxLen; omega, Rd.zero _ _ _ _⟩
end
/-- The cells of element k. -/
theorem rd_at {w : World} {A : Option Addr} {l : List Rg} (h : Rd w A l.length 2 (ndc l)) {k : Nat} (hk : k < l.length) :
    ∃ b off, A = some ⟨b, off, none⟩ ∧ b < w.heap.size ∧ w.cell? ⟨b, off + k * 2, none⟩ = some (.int .i64 l[k].1) ∧ w.cell? ⟨b, off + k * 2 + 1, none⟩ = some (.int .i64 l[k].2) := by
  obtain ⟨b, off, e, hb, hc⟩ := h (by omega)
  refine ⟨b, off, e, hb, ?_, ?_⟩
  · have := hc (k * 2) (by omega)
    rw [this]
    simp [ndc, hk]
  · have := hc (k * 2 + 1) (by omega)
    rw [Nat.add_assoc, this]
    have h1 : (k * 2 + 1) % 2 = 1 := by omega
    have h2 : (k * 2 + 1) / 2 = k := by omega
    simp [ndc, h1, h2, hk]

theorem ndv_length (l : List Rg) : (ndv l).length = l.length * 2 := by
  induction l with
  | nil => rfl
  | cons p l ih => simp [ndv] at *; omega
theorem ndv_append (l m : List Rg) : ndv (l ++ m) = ndv l ++ ndv m := by simp [ndv]
theorem ndv_snoc (l : List Rg) (p : Rg) : ndv (l ++ [p]) = ndv l ++ [.int .i64 p.1, .int .i64 p.2] := by simp [ndv]
theorem ndc_cons (p : Rg) (l : List Rg) (j : Nat) : ndc (p :: l) (j + 2) = ndc l j := by
  have h1 : (j + 2) % 2 = j % 2 := by omega
  have h2 : (j + 2) / 2 = j / 2 + 1 := by omega
  simp [ndc, h1, h2]
theorem ndv_get : ∀ (l : List Rg) (i : Nat), i < l.length * 2 → (ndv l)[i]? = some (ndc l i)
  | [], i, h => by simp at h
  | p :: l, 0, _ => by simp [ndv, ndc]
  | p :: l, 1, _ => by simp [ndv, ndc]
  | p :: l, i + 2, h => by
    rw [ndc_cons, ← ndv_get l i (by simp at h; omega)]
    simp [ndv]
theorem ndv_range (l : List Rg) : (List.range (l.length * 2)).map (ndc l) = ndv l := by
  apply List.ext_getElem?
  intro i
  by_cases h : i < l.length * 2
  · rw [ndv_get l i h]; simp [h]
  · rw [List.getElem?_eq_none (by simp; omega), List.getElem?_eq_none (by rw [ndv_length]; omega)]
theorem ndc_one (l : List Rg) (i : Nat) : (ndc l i).oneCell' = true := rfl
theorem nd_ones (p : Rg) : ∀ u ∈ [Value.int .i64 p.1, Value.int .i64 p.2], u.oneCell' = true := one2 rfl rfl
/-- What is owned reads as a list. -/
theorem own_nds {w : World} {base : Nat} {v : Value} {l : List Rg} (h : w.ownsRow base 31 2 v l.length (ndv l)) : Nds w v l := by
  obtain ⟨A, c, rfl, h1, h2, h3⟩ := own_form h
  refine ⟨A, c, rfl, h1, h2, h3, (own_rd h).congr fun i hi => ?_⟩
  show (ndv l).getD i undef = _
  rw [List.getD_eq_getElem?_getD, ndv_get l i hi]
  rfl


/-- All blocks but some are as they were. -/
structure Turn (S : Nat → Prop) (w w' : World) : Prop where
  os : w'.os = w.os
  tape : w'.tape = w.tape
  output : w'.output = w.output
  size : w.heap.size ≤ w'.heap.size
  block : ∀ k, k < w.heap.size → ¬ S k → w'.heap[k]? = w.heap[k]?
section
variable {S T : Nat → Prop} {w w1 w2 : World}
theorem Turn.refl (S : Nat → Prop) (w : World) : Turn S w w := ⟨rfl, rfl, rfl, Nat.le_refl _, fun _ _ _ => rfl⟩
theorem Turn.trans (h : Turn S w w1) (k : Turn T w1 w2) (hs : ∀ j, j < w.heap.size → T j → S j) : Turn S w w2 :=
  ⟨k.os.trans h.os, k.tape.trans h.tape, k.output.trans h.output, Nat.le_trans h.size k.size, fun j hj hn => (k.block j (Nat.lt_of_lt_of_le hj h.size) fun e => hn (hs j hj e)).trans (h.block j hj hn)⟩
theorem Turn.more (h : Turn S w w1) (hs : ∀ j, j < w.heap.size → S j → T j) : Turn T w w1 :=
  ⟨h.os, h.tape, h.output, h.size, fun j hj hn => h.block j hj fun e => hn (hs j hj e)⟩
theorem Below.turn (h : Below w.heap.size w w1) (S : Nat → Prop) : Turn S w w1 := ⟨h.os, h.tape, h.output, h.size, fun j hj _ => h.block j hj⟩
theorem Turn.below (h : Turn S w w1) (B : Nat) (hB : B ≤ w.heap.size) (hs : ∀ j, j < B → ¬ S j) : Below B w w1 := ⟨h.os, h.tape, h.output, h.size, fun j hj => h.block j (Nat.lt_of_lt_of_le hj hB) (hs j hj)⟩
theorem Turn.setCell (w : World) (S : Nat → Prop) (a : Addr) (u : Value) (hs : S a.block) : Turn S w (w.setCell a u) :=
  ⟨rfl, rfl, rfl, by simp, fun k _ hn => Below.heap_setCell w a u k fun e => hn (by rw [e]; exact hs)⟩
theorem Turn.alloc (w : World) (S : Nat → Prop) (o : Obj) : Turn S w (w.alloc o) := Below.turn (balloc0 w o) S
theorem Turn.drewN (h : Turn S w w1) (n : Nat) : Turn S w (w1.drewN n) := ⟨h.os, h.tape, h.output, h.size, h.block⟩
theorem Turn.grown (w w1 : World) (S : Nat → Prop) (r : Option Nat) (h : w.grownBy w1 r) (hs : ∀ k, r = some k → S k) : Turn S w w1 :=
  ⟨h.os, h.tape, h.output, h.size, fun k hk hn => h.block k hk fun e => hn (hs k e.symm)⟩
theorem Turn.grownBy (h : Turn S w w1) (r : Option Nat) (hs : ∀ k, k < w.heap.size → S k → r = some k) : w.grownBy w1 r :=
  ⟨h.os, h.tape, h.output, h.size, fun k hk hn => h.block k hk fun e => hn (hs k hk e).symm⟩
theorem Blk.turned {g : Nat} {t : TypeId} {cs : Array Value} (h : Blk w g t cs) (k : Turn S w w1) (hn : ¬ S g) : Blk w1 g t cs := (k.block g h.lt hn).trans h
theorem own_turned {base : Nat} {e : TypeId} {size : Nat} {v : Value} {n : Nat} {xs : List Value} (h : w.ownsRow base e size v n xs) (k : Turn S w w1) (hn : ∀ j, v.ownBlock = some j → ¬ S j) : w1.ownsRow base e size v n xs := by
  refine ⟨h.1, ?_⟩
  rcases h.2 with h2 | ⟨g, cap, cur, rfl, hb, hg, rest⟩
  · exact .inl h2
  · exact .inr ⟨g, cap, cur, rfl, hb, (k.block g (Array.getElem?_eq_some_iff.1 hg).1 (hn g rfl)).trans hg, rest⟩
theorem own_base {b c : Nat} {e : TypeId} {size : Nat} {v : Value} {n : Nat} {xs : List Value} (h : w.ownsRow b e size v n xs) (hc : ∀ j, v.ownBlock = some j → c ≤ j) : w.ownsRow c e size v n xs := by
  refine ⟨h.1, ?_⟩
  rcases h.2 with h2 | ⟨g, cap, cur, rfl, hb, rest⟩
  · exact .inl h2
  · exact .inr ⟨g, cap, cur, rfl, hc g rfl, rest⟩
end

/-- A bag in block g: its universe's bits, a total, and its readings, which it owns. -/
structure BagT (w : World) (g : Nat) (L t : Int) (l : List Rg) (v : Value) : Prop where
  blk : Blk w g 67 #[.int .i64 L, .int .i64 t, v]
  own : w.ownsRow 0 31 2 v l.length (ndv l)
/-- .. the total being what all weigh. -/
abbrev BagAt (w : World) (g : Nat) (L : Int) (l : List Rg) (v : Value) : Prop := BagT w g L (tot l) l v
/-- The blocks of a bag. -/
def Foot (g : Nat) (v : Value) (j : Nat) : Prop := j = g ∨ v.ownBlock = some j
section
variable {w w1 : World} {g : Nat} {L t : Int} {l : List Rg} {v : Value}
theorem BagT.lt (h : BagT w g L t l v) : ∀ j, Foot g v j → j < w.heap.size := fun j hj => by
  rcases hj with rfl | hj
  · exact h.blk.lt
  · exact (h.own.lt j hj).2
theorem BagT.ne (h : BagT w g L t l v) : ∀ j, v.ownBlock = some j → j ≠ g := fun j hj e => by
  subst e
  have hb := h.blk
  rcases h.own.2 with ⟨rfl, _⟩ | ⟨g2, cap, cur, rfl, _, hg, _⟩
  · cases hj
  · simp only [Value.ownBlock, Option.some.injEq] at hj
    subst hj
    unfold Blk at hb
    rw [hb] at hg
    injection hg with hg
    injection hg with _ ht _
    exact absurd ht (by decide)
theorem BagT.turned {S : Nat → Prop} (h : BagT w g L t l v) (k : Turn S w w1) (hn : ∀ j, Foot g v j → ¬ S j) : BagT w1 g L t l v :=
  ⟨h.blk.turned k (hn g (.inl rfl)), own_turned h.own k fun j hj => hn j (.inr hj)⟩
theorem BagT.kept (h : BagT w g L t l v) (k : Below w.heap.size w w1) : BagT w1 g L t l v := h.turned (Below.turn k fun _ => False) fun _ _ h => h
theorem BagT.nds (h : BagT w g L t l v) : Nds w v l := own_nds h.own
theorem BagT.total (h : BagT w g L t l v) (u : Int) : BagT (w.setCell ⟨g, 1, none⟩ (.int .i64 u)) g L u l v := by
  refine ⟨?_, own_turned h.own (Turn.setCell w (fun j => j = g) ⟨g, 1, none⟩ _ rfl) fun j hj => h.ne j hj⟩
  have := h.blk.set 1 (.int .i64 u)
  simpa using this
end
/-- What became of a bag: it has other readings, in its own blocks or in new ones; nothing else is turned. -/
def Bagged (w : World) (g : Nat) (L : Int) (l : List Rg) (v : Value) (w' : World) : Prop :=
  ∃ v', BagAt w' g L l v' ∧ Turn (Foot g v) w w' ∧ ∀ j, v'.ownBlock = some j → v.ownBlock = some j ∨ w.heap.size ≤ j
end Go.Proofs.Ytkjihbaiofocgaa

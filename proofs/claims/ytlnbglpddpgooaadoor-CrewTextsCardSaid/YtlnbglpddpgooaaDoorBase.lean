/- Words of memory that all walks of this seat share: worlds that have only grown, blocks that are known whole, slices that read as lists, and a region that draws its order walked once over all worlds that have only grown. By the prover of this repo. -/
import Derived.Test.YtlnbglpddpgooaaDoorRows
import Derived.WalkKit
import Derived.WalkLawsBesides
import Derived.WalkSpells
import Derived.Outline
import Derived.BigQuiet
import Derived.WalkSmall
import Derived.Deep.Cut
import Derived.Deep.DeepCutAuto
import Derived.Deep.RegionWith
namespace Go.Proofs.YtlnbglpddpgooaaDoor
open Go.RowKit

theorem hide {p : Prop} (h : p) : Hid p := h

theorem ret_congr {a b : Value} (h : a = b) : Ending.returned a = Ending.returned b := by rw [h]
theorem ret2 {a b c d : Value} (h1 : a = c) (h2 : b = d) : Ending.returned (.tuple #[a, b]) = Ending.returned (.tuple #[c, d]) := by rw [h1, h2]
theorem ret3 {a b c d e f : Value} (h1 : a = d) (h2 : b = e) (h3 : c = f) : Ending.returned (.tuple #[a, b, c]) = Ending.returned (.tuple #[d, e, f]) := by rw [h1, h2, h3]
theorem bool_true {p : Prop} [Decidable p] (h : p) : Value.bool (decide p) = .bool true := by rw [decide_eq_true h]
theorem bool_false {p : Prop} [Decidable p] (h : ¬ p) : Value.bool (decide p) = .bool false := by rw [decide_eq_false h]
theorem bool_congr {a b : Bool} (h : a = b) : Value.bool a = .bool b := by rw [h]
theorem int_congr {k : IntKind} {a b : Int} (h : a = b) : Value.int k a = Value.int k b := by rw [h]

/-- Old cells and marks behind a call that only made memory: two rules for the walk. -/
theorem old {W w1 : World} (hb : Below W.heap.size W w1) :
    (∀ b o, b < W.heap.size → w1.cell? ⟨b, o, none⟩ = W.cell? ⟨b, o, none⟩) ∧ (∀ b o, b < W.heap.size → w1.frozen? ⟨b, o, none⟩ = W.frozen? ⟨b, o, none⟩) :=
  ⟨fun b o h => hb.cell (p := ⟨b, o, none⟩) h, fun b o h => hb.frozen (p := ⟨b, o, none⟩) h⟩

theorem take_snoc (s : ByteArray) (k : Nat) (h : k < s.size) : s.data.toList.take (k + 1) = s.data.toList.take k ++ [s[k]] := by
  rw [List.take_succ_eq_append_getElem (by simpa using h)]; rfl
theorem take_all (s : ByteArray) (k : Nat) (h : ¬ k < s.size) : s.data.toList.take k = s.data.toList := List.take_of_length_le (by simp; omega)

theorem str_ext {a b : ByteArray} (h : a.data.toList = b.data.toList) : a = b := ByteArray.ext (Array.toList_inj.1 h)
/-- Two texts that differ, in the walk's own form. -/
theorem str_ne {a b : ByteArray} (h : ¬ a = b) : (a.toList == b.toList) = false :=
  beq_eq_false_iff_ne.2 fun e => h (by rw [ByteArray.toList_eq, ByteArray.toList_eq] at e; exact str_ext e)
theorem nil_of_size (s : ByteArray) (h : ¬ 0 < s.size) : s.data.toList = [] :=
  List.eq_nil_of_length_eq_zero (by rw [Array.length_toList]; show s.size = 0; omega)
theorem extract_take (t : ByteArray) (n : Nat) : (t.extract 0 n).data.toList = t.data.toList.take n := by simp
theorem extract_drop (t : ByteArray) (n : Nat) : (t.extract n t.size).data.toList = t.data.toList.drop n := by
  have h : (t.extract n t.size).data = t.data.extract n t.size := by simp
  rw [h, Array.toList_extract]
  simp only [List.extract]
  exact List.take_of_length_le (by simp)

/-- The length of a string in a slot: for a loop's measure. -/
def strLen : Value → Nat | .string s => s.size | _ => 0

theorem below_drewN {B : Nat} {a w : World} (h : Below B a w) (n : Nat) : Below B a (w.drewN n) := ⟨h.os, h.tape, h.output, h.size, h.block⟩

/-- One step more, and what a step may be: a call that only made memory, a new block, a store into a block that is new. -/
theorem bthen {w w1 w2 : World} (h : Below w.heap.size w w1) (k : Below w1.heap.size w1 w2) : Below w.heap.size w w2 := h.trans (k.mono h.size)
theorem balloc {w w1 : World} (h : Below w.heap.size w w1) (o : Obj) : Below w.heap.size w (w1.alloc o) := h.alloc h.size o
theorem balloc0 (w : World) (o : Obj) : Below w.heap.size w (w.alloc o) := (Below.refl _ _).alloc (Nat.le_refl _) o

/-- The block g is just these cells, none of them frozen. -/
def Blk (w : World) (g : Nat) (t : TypeId) (cs : Array Value) : Prop := w.heap[g]? = some (.cells cs t (0, 0))
section
variable {w w' : World} {g : Nat} {t : TypeId} {cs : Array Value}
theorem Blk.lt (h : Blk w g t cs) : g < w.heap.size := (Array.getElem?_eq_some_iff.1 h).1
theorem Blk.cell (h : Blk w g t cs) (i : Nat) : w.cell? ⟨g, i, none⟩ = cs[i]? := by
  unfold Blk at h
  simp [World.cell?, h]
theorem Blk.free (h : Blk w g t cs) (i : Nat) : w.frozen? ⟨g, i, none⟩ = false := by
  unfold Blk at h
  simp [World.frozen?, h]
theorem Blk.made (w : World) (t : TypeId) (cs : Array Value) : Blk (w.alloc (.cells cs t)) w.heap.size t cs := heap_alloc_new w _
theorem Blk.made_at (w : World) (t : TypeId) (cs : Array Value) {g : Nat} (hg : g = w.heap.size) : Blk (w.alloc (.cells cs t)) g t cs := by subst hg; exact Blk.made _ _ _
theorem Blk.drew (h : Blk w g t cs) : Blk w.drew g t cs := h
theorem Blk.drewN (h : Blk w g t cs) (n : Nat) : Blk (w.drewN n) g t cs := h
theorem Blk.alloc (h : Blk w g t cs) (o : Obj) : Blk (w.alloc o) g t cs := (Below.heap_alloc w o g h.lt).trans h
theorem Blk.set (h : Blk w g t cs) (i : Nat) (u : Value) : Blk (w.setCell ⟨g, i, none⟩ u) g t (cs.setIfInBounds i u) := by
  unfold Blk at h ⊢
  simp [World.setCell, Array.getElem?_modify, h]
theorem Blk.off (h : Blk w g t cs) {p : Addr} (hp : g ≠ p.block) (u : Value) : Blk (w.setCell p u) g t cs := (Below.heap_setCell w p u g hp).trans h
theorem Blk.below {B : Nat} (h : Blk w g t cs) (hb : Below B w w') (hg : g < B) : Blk w' g t cs := (hb.block g hg).trans h
theorem Blk.kept (h : Blk w g t cs) (hb : Below w.heap.size w w') : Blk w' g t cs := h.below hb h.lt
end

/-- A slice value's n elements, of 'size' cells each, lie there and hold f. -/
def Rd (w : World) (a : Option Addr) (n size : Nat) (f : Nat → Value) : Prop :=
  0 < n → ∃ b off, a = some ⟨b, off, none⟩ ∧ b < w.heap.size ∧ ∀ i, i < n * size → w.cell? ⟨b, off + i, none⟩ = some (f i)
section
variable {w w' : World} {a : Option Addr} {n size : Nat} {f : Nat → Value}
theorem Rd.zero (w : World) (a : Option Addr) (size : Nat) (f : Nat → Value) : Rd w a 0 size f := fun h => absurd h (by omega)
theorem Rd.kept (h : Rd w a n size f) (hb : Below w.heap.size w w') : Rd w' a n size f := fun hn => by
  obtain ⟨b, off, e, hlt, hc⟩ := h hn
  have hs := hb.size
  exact ⟨b, off, e, by omega, fun i hi => (hb.cell (p := ⟨b, off + i, none⟩) hlt).trans (hc i hi)⟩
theorem Rd.drew (h : Rd w a n size f) : Rd w.drew a n size f := h
theorem Rd.drewN (h : Rd w a n size f) (k : Nat) : Rd (w.drewN k) a n size f := h
theorem Rd.alloc (h : Rd w a n size f) (o : Obj) : Rd (w.alloc o) a n size f := h.kept ((Below.refl _ _).alloc (Nat.le_refl _) _)
theorem Rd.of_below {B : Nat} {W : World} (hW : Rd W a n size f) (hB : W.heap.size ≤ B) (hb : Below B W w) : Rd w a n size f := hW.kept (hb.mono hB)
theorem Rd.congr {g : Nat → Value} (h : Rd w a n size f) (hg : ∀ i, i < n * size → f i = g i) : Rd w a n size g := fun hn => by
  obtain ⟨b, off, e, hlt, hc⟩ := h hn
  exact ⟨b, off, e, hlt, fun i hi => by rw [hc i hi, hg i hi]⟩
theorem Rd.less (h : Rd w a n size f) {m : Nat} (hm : m ≤ n) : Rd w a m size f := fun hn => by
  obtain ⟨b, off, e, hlt, hc⟩ := h (by omega)
  exact ⟨b, off, e, hlt, fun i hi => hc i (Nat.lt_of_lt_of_le hi (Nat.mul_le_mul_right _ hm))⟩
theorem Rd.of_blk {g : Nat} {t : TypeId} {cs : Array Value} (h : Blk w g t cs) (o : Nat) (hs : o + n * size ≤ cs.size) (hf : ∀ i, i < n * size → cs[o + i]? = some (f i)) :
    Rd w (some ⟨g, o, none⟩) n size f := fun _ => ⟨g, o, rfl, h.lt, fun i hi => by rw [h.cell, hf i hi]⟩
end

/-- A later world: nothing below block B has turned. -/
def Later (B : Nat) (W : World) := { w : World // Below B W w }
section
variable {B : Nat} {W : World}
theorem later_cell (e : Later B W) (b o : Nat) (h : b < B) : e.val.cell? ⟨b, o, none⟩ = W.cell? ⟨b, o, none⟩ := e.property.cell (p := ⟨b, o, none⟩) h
theorem later_free (e : Later B W) (b o : Nat) (h : b < B) : e.val.frozen? ⟨b, o, none⟩ = W.frozen? ⟨b, o, none⟩ := e.property.frozen (p := ⟨b, o, none⟩) h
theorem later_rd {a : Option Addr} {n size : Nat} {f : Nat → Value} (e : Later W.heap.size W) (h : Rd W a n size f) : Rd e.val a n size f := h.kept e.property
end
attribute [go_sem] later_cell later_free

/-- A region that draws its order, whose operations only read and whose callees only make memory: one walk in the order of the text, over all later worlds. -/
theorem wp_region_later {P : Program} {id : Nat} {Q : Exit → Act → World → Prop} {a : Act} {w : World} {l : List Oper} (hm : P.follows .mixedOrders = true) (hB : Region.lexB .any l.toArray = true)
    (h : wpQuiet P l.toArray (fun w' => ∃ e : Later w.heap.size w, w' = e.val) (fun a' => ∀ w', (∃ e : Later w.heap.size w, w' = e.val) → Q .normal a' w') l a) : (Code.region id l.toArray true).wp P Q a w :=
  wp_region_quiet (C := fun w' => ∃ e : Later w.heap.size w, w' = e.val) hm hB ⟨⟨w.drew, (Below.refl _ _).drew⟩, rfl⟩ (by simpa using h)

/-- A callee that only makes memory, in a later world. -/
theorem calls_later {P : Program} {f : FuncId} {args : Array Value} {W : World} {v : Value} {e : Later W.heap.size W}
    (h : Calls P f args e.val fun r w' => r = .returned v ∧ Below e.val.heap.size e.val w') : Calls P f args e.val fun r w'' => r = .returned v ∧ ∃ e' : Later W.heap.size W, w'' = e'.val :=
  h.mono fun _ _ ⟨he, hb⟩ => ⟨he, ⟨⟨_, e.property.trans (hb.mono e.property.size)⟩, rfl⟩⟩
theorem calls_later_same {P : Program} {f : FuncId} {args : Array Value} {W : World} {v : Value} {e : Later W.heap.size W}
    (h : Calls P f args e.val fun r w' => r = .returned v ∧ e.val = w') : Calls P f args e.val fun r w'' => r = .returned v ∧ ∃ e' : Later W.heap.size W, w'' = e'.val :=
  h.mono fun _ _ ⟨he, hb⟩ => ⟨he, ⟨e, hb.symm⟩⟩
end Go.Proofs.YtlnbglpddpgooaaDoor

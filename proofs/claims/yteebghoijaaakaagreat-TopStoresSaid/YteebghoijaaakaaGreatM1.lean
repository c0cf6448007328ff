/- Part 1 of the proof: texts joined by this repo's tools/merge2.py (Base TwigM Bits). By the prover of this repo. -/
import Derived.Test.YteebghoijaaakaaGreatRows
import Derived.WalkKit
import Derived.WalkLawsBesides
import Derived.WalkSpells
import Derived.Outline
import Derived.BigQuiet
import Derived.WalkSmall
import Derived.Deep.Cut
import Derived.Deep.DeepCutAuto
import Derived.Deep.RegionWith
import Derived.Lib.BitFns
set_option linter.unusedVariables false
set_option linter.unusedSimpArgs false
/- Words of memory that all walks of this seat share: worlds that have only grown, blocks that are known whole, slices that read as lists, and a region that draws its order walked once over all worlds that have only grown. By the prover of this repo. -/
namespace Go.Proofs.YteebghoijaaakaaGreat
open Go.RowKit

theorem hide {p : Prop} (h : p) : Hid p := h

theorem ret_congr {a b : Value} (h : a = b) : Ending.returned a = Ending.returned b := by rw [h]
theorem ret2 {a b c d : Value} (h1 : a = c) (h2 : b = d) : Ending.returned (.tuple #[a, b]) = Ending.returned (.tuple #[c, d]) := by rw [h1, h2]
theorem ret3 {a b c d e f : Value} (h1 : a = d) (h2 : b = e) (h3 : c = f) : Ending.returned (.tuple #[a, b, c]) = Ending.returned (.tuple #[d, e, f]) := by rw [h1, h2, h3]
theorem bool_true {p : Prop} [Decidable p] (h : p) : Value.bool (decide p) = .bool true := by rw [decide_eq_true h]
theorem bool_false {p : Prop} [Decidable p] (h : ¬ p) : Value.bool (decide p) = .bool false := by rw [decide_eq_false h]
theorem bool_congr {a b : Bool} (h : a = b) : Value.bool a = .bool b := by rw [h]
theorem int_congr {k : IntKind} {a b : Int} (h : a = b) : Value.int k a = Value.int k b := by rw [h]

/-- Old cells and marks behind a call that only made memory: two rules for the walk. -/
theorem old {W w1 : World} (hb : Below W.heap.size W w1) :
    (∀ b o, b < W.heap.size → w1.cell? ⟨b, o, none⟩ = W.cell? ⟨b, o, none⟩) ∧ (∀ b o, b < W.heap.size → w1.frozen? ⟨b, o, none⟩ = W.frozen? ⟨b, o, none⟩) :=
  ⟨fun b o h => hb.cell (p := ⟨b, o, none⟩) h, fun b o h => hb.frozen (p := ⟨b, o, none⟩) h⟩

theorem take_snoc (s : ByteArray) (k : Nat) (h : k < s.size) : s.data.toList.take (k + 1) = s.data.toList.take k ++ [s[k]] := by
  rw [List.take_succ_eq_append_getElem (by simpa using h)]; rfl
theorem take_all (s : ByteArray) (k : Nat) (h : ¬ k < s.size) : s.data.toList.take k = s.data.toList := List.take_of_length_le (by simp; omega)

theorem str_ext {a b : ByteArray} (h : a.data.toList = b.data.toList) : a = b := ByteArray.ext (Array.toList_inj.1 h)
/-- Two texts that differ, in the walk's own form. -/
theorem str_ne {a b : ByteArray} (h : ¬ a = b) : (a.toList == b.toList) = false :=
  beq_eq_false_iff_ne.2 fun e => h (by rw [ByteArray.toList_eq, ByteArray.toList_eq] at e; exact str_ext e)
theorem nil_of_size (s : ByteArray) (h : ¬ 0 < s.size) : s.data.toList = [] :=
  List.eq_nil_of_length_eq_zero (by rw [Array.length_toList]; show s.size = 0; omega)
theorem extract_take (t : ByteArray) (n : Nat) : (t.extract 0 n).data.toList = t.data.toList.take n := by simp
theorem extract_drop (t : ByteArray) (n : Nat) : (t.extract n t.size).data.toList = t.data.toList.drop n := by
  have h : (t.extract n t.size).data = t.data.extract n t.size := by simp
  rw [h, Array.toList_extract]
  simp only [List.extract]
  exact List.take_of_length_le (by simp)

/-- The length of a string in a slot: for a loop's measure. -/
def strLen : Value → Nat | .string s => s.size | _ => 0

theorem below_drewN {B : Nat} {a w : World} (h : Below B a w) (n : Nat) : Below B a (w.drewN n) := ⟨h.os, h.tape, h.output, h.size, h.block⟩

/-- One step more, and what a step may be: a call that only made memory, a new block, a store into a block that is new. -/
theorem bthen {w w1 w2 : World} (h : Below w.heap.size w w1) (k : Below w1.heap.size w1 w2) : Below w.heap.size w w2 := h.trans (k.mono h.size)
theorem balloc {w w1 : World} (h : Below w.heap.size w w1) (o : Obj) : Below w.heap.size w (w1.alloc o) := h.alloc h.size o
theorem balloc0 (w : World) (o : Obj) : Below w.heap.size w (w.alloc o) := (Below.refl _ _).alloc (Nat.le_refl _) o

/-- The block g is just these cells, none of them frozen. -/
def Blk (w : World) (g : Nat) (t : TypeId) (cs : Array Value) : Prop := w.heap[g]? = some (.cells cs t (0, 0))
section
variable {w w' : World} {g : Nat} {t : TypeId} {cs : Array Value}
theorem Blk.lt (h : Blk w g t cs) : g < w.heap.size := (Array.getElem?_eq_some_iff.1 h).1
theorem Blk.cell (h : Blk w g t cs) (i : Nat) : w.cell? ⟨g, i, none⟩ = cs[i]? := by
  unfold Blk at h
  simp [World.cell?, h]
theorem Blk.free (h : Blk w g t cs) (i : Nat) : w.frozen? ⟨g, i, none⟩ = false := by
  unfold Blk at h
  simp [World.frozen?, h]
theorem Blk.made (w : World) (t : TypeId) (cs : Array Value) : Blk (w.alloc (.cells cs t)) w.heap.size t cs := heap_alloc_new w _
theorem Blk.made_at (w : World) (t : TypeId) (cs : Array Value) {g : Nat} (hg : g = w.heap.size) : Blk (w.alloc (.cells cs t)) g t cs := by subst hg; exact Blk.made _ _ _
theorem Blk.drew (h : Blk w g t cs) : Blk w.drew g t cs := h
theorem Blk.drewN (h : Blk w g t cs) (n : Nat) : Blk (w.drewN n) g t cs := h
theorem Blk.alloc (h : Blk w g t cs) (o : Obj) : Blk (w.alloc o) g t cs := (Below.heap_alloc w o g h.lt).trans h
theorem Blk.set (h : Blk w g t cs) (i : Nat) (u : Value) : Blk (w.setCell ⟨g, i, none⟩ u) g t (cs.setIfInBounds i u) := by
  unfold Blk at h ⊢
  simp [World.setCell, Array.getElem?_modify, h]
theorem Blk.off (h : Blk w g t cs) {p : Addr} (hp : g ≠ p.block) (u : Value) : Blk (w.setCell p u) g t cs := (Below.heap_setCell w p u g hp).trans h
theorem Blk.below {B : Nat} (h : Blk w g t cs) (hb : Below B w w') (hg : g < B) : Blk w' g t cs := (hb.block g hg).trans h
theorem Blk.kept (h : Blk w g t cs) (hb : Below w.heap.size w w') : Blk w' g t cs := h.below hb h.lt
end

/-- A slice value's n elements, of 'size' cells each, lie there and hold f. -/
def Rd (w : World) (a : Option Addr) (n size : Nat) (f : Nat → Value) : Prop :=
  0 < n → ∃ b off, a = some ⟨b, off, none⟩ ∧ b < w.heap.size ∧ ∀ i, i < n * size → w.cell? ⟨b, off + i, none⟩ = some (f i)
section
variable {w w' : World} {a : Option Addr} {n size : Nat} {f : Nat → Value}
theorem Rd.zero (w : World) (a : Option Addr) (size : Nat) (f : Nat → Value) : Rd w a 0 size f := fun h => absurd h (by omega)
theorem Rd.kept (h : Rd w a n size f) (hb : Below w.heap.size w w') : Rd w' a n size f := fun hn => by
  obtain ⟨b, off, e, hlt, hc⟩ := h hn
  have hs := hb.size
  exact ⟨b, off, e, by omega, fun i hi => (hb.cell (p := ⟨b, off + i, none⟩) hlt).trans (hc i hi)⟩
theorem Rd.drew (h : Rd w a n size f) : Rd w.drew a n size f := h
theorem Rd.drewN (h : Rd w a n size f) (k : Nat) : Rd (w.drewN k) a n size f := h
theorem Rd.alloc (h : Rd w a n size f) (o : Obj) : Rd (w.alloc o) a n size f := h.kept ((Below.refl _ _).alloc (Nat.le_refl _) _)
theorem Rd.of_below {B : Nat} {W : World} (hW : Rd W a n size f) (hB : W.heap.size ≤ B) (hb : Below B W w) : Rd w a n size f := hW.kept (hb.mono hB)
theorem Rd.congr {g : Nat → Value} (h : Rd w a n size f) (hg : ∀ i, i < n * size → f i = g i) : Rd w a n size g := fun hn => by
  obtain ⟨b, off, e, hlt, hc⟩ := h hn
  exact ⟨b, off, e, hlt, fun i hi => by rw [hc i hi, hg i hi]⟩
theorem Rd.less (h : Rd w a n size f) {m : Nat} (hm : m ≤ n) : Rd w a m size f := fun hn => by
  obtain ⟨b, off, e, hlt, hc⟩ := h (by omega)
  exact ⟨b, off, e, hlt, fun i hi => hc i (Nat.lt_of_lt_of_le hi (Nat.mul_le_mul_right _ hm))⟩
theorem Rd.of_blk {g : Nat} {t : TypeId} {cs : Array Value} (h : Blk w g t cs) (o : Nat) (hs : o + n * size ≤ cs.size) (hf : ∀ i, i < n * size → cs[o + i]? = some (f i)) :
    Rd w (some ⟨g, o, none⟩) n size f := fun _ => ⟨g, o, rfl, h.lt, fun i hi => by rw [h.cell, hf i hi]⟩
end

/-- A later world: nothing below block B has turned. -/
def Later (B : Nat) (W : World) := { w : World // Below B W w }
section
variable {B : Nat} {W : World}
theorem later_cell (e : Later B W) (b o : Nat) (h : b < B) : e.val.cell? ⟨b, o, none⟩ = W.cell? ⟨b, o, none⟩ := e.property.cell (p := ⟨b, o, none⟩) h
theorem later_free (e : Later B W) (b o : Nat) (h : b < B) : e.val.frozen? ⟨b, o, none⟩ = W.frozen? ⟨b, o, none⟩ := e.property.frozen (p := ⟨b, o, none⟩) h
theorem later_rd {a : Option Addr} {n size : Nat} {f : Nat → Value} (e : Later W.heap.size W) (h : Rd W a n size f) : Rd e.val a n size f := h.kept e.property
end
attribute [go_sem] later_cell later_free

/-- A region that draws its order, whose operations only read and whose callees only make memory: one walk in the order of the text, over all later worlds. -/
theorem wp_region_later {P : Program} {id : Nat} {Q : Exit → Act → World → Prop} {a : Act} {w : World} {l : List Oper} (hm : P.follows .mixedOrders = true) (hB : Region.lexB .any l.toArray = true)
    (h : wpQuiet P l.toArray (fun w' => ∃ e : Later w.heap.size w, w' = e.val) (fun a' => ∀ w', (∃ e : Later w.heap.size w, w' = e.val) → Q .normal a' w') l a) : (Code.region id l.toArray true).wp P Q a w :=
  wp_region_quiet (C := fun w' => ∃ e : Later w.heap.size w, w' = e.val) hm hB ⟨⟨w.drew, (Below.refl _ _).drew⟩, rfl⟩ (by simpa using h)

/-- A callee that only makes memory, in a later world. -/
theorem calls_later {P : Program} {f : FuncId} {args : Array Value} {W : World} {v : Value} {e : Later W.heap.size W}
    (h : Calls P f args e.val fun r w' => r = .returned v ∧ Below e.val.heap.size e.val w') : Calls P f args e.val fun r w'' => r = .returned v ∧ ∃ e' : Later W.heap.size W, w'' = e'.val :=
  h.mono fun _ _ ⟨he, hb⟩ => ⟨he, ⟨⟨_, e.property.trans (hb.mono e.property.size)⟩, rfl⟩⟩
theorem calls_later_same {P : Program} {f : FuncId} {args : Array Value} {W : World} {v : Value} {e : Later W.heap.size W}
    (h : Calls P f args e.val fun r w' => r = .returned v ∧ e.val = w') : Calls P f args e.val fun r w'' => r = .returned v ∧ ∃ e' : Later W.heap.size W, w'' = e'.val :=
  h.mono fun _ _ ⟨he, hb⟩ => ⟨he, ⟨e, hb.symm⟩⟩
end Go.Proofs.YteebghoijaaakaaGreat
/- Plain facts on the nodes of layer 2: depths, powers, leaves, ends, ways up, and where they meet. No program in sight. By the prover of this repo. -/
namespace Go.Proofs.YteebghoijaaakaaGreat
namespace TwigM

/-- The depth of a node. -/
def lg (n : Int) : Int := (Nat.log2 n.toNat : Nat)
/-- 2 to the power l. -/
def pw (l : Int) : Int := 2 ^ l.toNat

theorem lg_nonneg (n : Int) : 0 ≤ lg n := Int.natCast_nonneg _
theorem pw_pos (l : Int) : 1 ≤ pw l := by
  unfold pw
  have : (0 : Int) < 2 ^ l.toNat := Int.pow_pos (by omega)
  omega
theorem pw_nat (l : Int) : pw l = ((2 ^ l.toNat : Nat) : Int) := by unfold pw; simp
theorem pw_zero : pw 0 = 1 := rfl
theorem pw_neg {l : Int} (h : l ≤ 0) : pw l = 1 := by unfold pw; rw [show l.toNat = 0 by omega]; rfl
theorem pw_succ {l : Int} (h : 0 ≤ l) : pw (l + 1) = 2 * pw l := by
  unfold pw
  rw [show (l + 1).toNat = l.toNat + 1 by omega, Int.pow_succ]
  omega
theorem pw_add {a b : Int} (ha : 0 ≤ a) (hb : 0 ≤ b) : pw (a + b) = pw a * pw b := by
  unfold pw
  rw [show (a + b).toNat = a.toNat + b.toNat by omega, Int.pow_add]
theorem pw_mono {a b : Int} (h : a ≤ b) : pw a ≤ pw b := by
  rw [pw_nat, pw_nat]
  have := Nat.pow_le_pow_right (n := 2) (by omega) (show a.toNat ≤ b.toNat by omega)
  omega
theorem pw_lt {a b : Int} (ha : 0 ≤ a) (h : a < b) : pw a < pw b := by
  rw [pw_nat, pw_nat]
  have := Nat.pow_lt_pow_right (a := 2) (by omega) (show a.toNat < b.toNat by omega)
  omega
theorem pw48 : pw 48 = 281474976710656 := rfl
theorem pw62 : pw 62 = 4611686018427387904 := rfl
theorem pw_le48 {l : Int} (h : l ≤ 48) : pw l ≤ 281474976710656 := pw48 ▸ pw_mono h
theorem pw_le62 {l : Int} (h : l ≤ 62) : pw l ≤ 4611686018427387904 := pw62 ▸ pw_mono h

theorem lg_spec {n : Int} (h : 1 ≤ n) : pw (lg n) ≤ n ∧ n < 2 * pw (lg n) := by
  have h1 := Nat.log2_self_le (n := n.toNat) (by omega)
  have h2 := Nat.lt_log2_self (n := n.toNat)
  rw [Nat.pow_succ] at h2
  rw [pw_nat]
  have : (lg n).toNat = Nat.log2 n.toNat := by unfold lg; omega
  rw [this]
  omega
theorem lg_unique {n d : Int} (h0 : 0 ≤ d) (h1 : pw d ≤ n) (h2 : n < 2 * pw d) : lg n = d := by
  have hn : 1 ≤ n := by have := pw_pos d; omega
  obtain ⟨a, b⟩ := lg_spec hn
  have h3 := lg_nonneg n
  rcases Int.lt_trichotomy (lg n) d with h | h | h
  · have := pw_mono (show lg n + 1 ≤ d by omega)
    rw [pw_succ h3] at this; omega
  · exact h
  · have := pw_mono (show d + 1 ≤ lg n by omega)
    rw [pw_succ h0] at this; omega
theorem lg_one : lg 1 = 0 := lg_unique (by omega) (by rw [pw_zero]; omega) (by rw [pw_zero]; omega)
theorem lg_half {n : Int} (h : 2 ≤ n) : lg n = lg (n / 2) + 1 := by
  obtain ⟨a, b⟩ := lg_spec (show 1 ≤ n / 2 by omega)
  have h3 := lg_nonneg (n / 2)
  exact lg_unique (by omega) (by rw [pw_succ h3]; omega) (by rw [pw_succ h3]; omega)
theorem lg_le {n l : Int} (h : 1 ≤ n) (hl : 0 ≤ l) : lg n ≤ l ↔ n < 2 * pw l := by
  obtain ⟨a, b⟩ := lg_spec h
  constructor
  · intro k; have := pw_mono k; omega
  · intro k
    refine Int.le_of_not_gt fun hh => ?_
    have := pw_mono (show l + 1 ≤ lg n by omega)
    rw [pw_succ hl] at this; omega
theorem lg_le62 {n : Int} (h : 1 ≤ n) (h1 : n ≤ 9223372036854775807) : lg n ≤ 62 := (lg_le h (by omega)).2 (by rw [pw62]; omega)
theorem lg_mono {a b : Int} (ha : 1 ≤ a) (h : a ≤ b) : lg a ≤ lg b := by
  obtain ⟨_, c⟩ := lg_spec (show 1 ≤ b by omega)
  exact (lg_le ha (lg_nonneg b)).2 (by omega)
theorem bitLen_lg {n : Int} (h : 1 ≤ n) (h1 : n ≤ 9223372036854775807) : (Lib.bitLen n.toNat : Int) = lg n + 1 := by
  have key : ∀ (f : Nat) (x : Nat), 1 ≤ x → x < 2 ^ f → Lib.bitLenAux f x = Nat.log2 x + 1 := by
    intro f
    induction f with
    | zero => intro x h1 h2; simp at h2; omega
    | succ f ih =>
      intro x h1 h2
      rw [Lib.bitLenAux, if_neg (by omega)]
      by_cases hx : 2 ≤ x
      · rw [ih (x / 2) (by omega) (by rw [Nat.pow_succ] at h2; omega)]
        rw [Nat.log2_def x, if_pos hx]
        omega
      · obtain rfl : x = 1 := by omega
        have : Lib.bitLenAux f (1 / 2) = 0 := by cases f <;> simp [Lib.bitLenAux]
        rw [this, Nat.log2_def]
        simp
  unfold Lib.bitLen
  rw [key 64 n.toNat (by omega) (by have : (2 : Nat) ^ 64 = 18446744073709551616 := rfl; omega)]
  unfold lg
  omega

/-- Is it a node of a universe? -/
def rightB (l id : Int) : Bool := decide (1 ≤ l ∧ l ≤ 48 ∧ 1 ≤ id ∧ id < 2 * pw l)
theorem right_mk {l id : Int} (h1 : 1 ≤ l) (h2 : l ≤ 48) (h3 : 1 ≤ id) (h4 : id < 2 * pw l) : rightB l id = true := decide_eq_true ⟨h1, h2, h3, h4⟩
theorem right_iff {l id : Int} : rightB l id = true ↔ 1 ≤ l ∧ l ≤ 48 ∧ 1 ≤ id ∧ id < 2 * pw l := by unfold rightB; simp
/-- The leaf of a value; the value of a leaf. -/
def leafF (l x : Int) : Int × Bool := if 1 ≤ l ∧ l ≤ 48 ∧ 0 ≤ x ∧ x < pw l then (pw l + x, true) else (0, false)
def valueF (l id : Int) : Int × Bool := if rightB l id = true ∧ pw l ≤ id then (id - pw l, true) else (0, false)
def depthF (id : Int) : Int × Bool := if id < 1 then (0, false) else (lg id, true)
/-- The least value of a node; how many it holds. -/
def loF (l id : Int) : Int := (id - pw (lg id)) * pw (l - lg id)
def endsF (l id : Int) : Int × Int × Bool := if rightB l id = true then (loF l id, loF l id + pw (l - lg id) - 1, true) else (0, 0, false)
def upF (id by_ : Int) : Int × Bool := if 1 ≤ id ∧ 0 ≤ by_ ∧ by_ ≤ lg id then (id / pw by_, true) else (0, false)
def pairF (id : Int) : Int × Bool := if id < 2 then (0, false) else (if id % 2 = 0 then id + 1 else id - 1, true)
def kidsF (l id : Int) : Int × Int × Bool := if rightB l id = true ∧ id < pw l then (2 * id, 2 * id + 1, true) else (0, 0, false)
def aboveB (a b : Int) : Bool := decide (1 ≤ a ∧ 1 ≤ b ∧ lg a ≤ lg b ∧ b / pw (lg b - lg a) = a)
def graftF (id by_ : Int) : Int × Bool := if 1 ≤ id ∧ 0 ≤ by_ ∧ lg id + by_ ≤ 48 then (id - pw (lg id) + pw (lg id + by_), true) else (0, false)
def pruneF (id depth : Int) : Int × Bool := if 1 ≤ id ∧ 0 ≤ depth then (id / pw (lg id - depth), true) else (0, false)

/-- Where the ways up meet. -/
def meetN (a b : Nat) : Nat := if a = b then a else if b < a then meetN (a / 2) b else meetN a (b / 2)
termination_by a + b
decreasing_by all_goals omega
def meetF (a b : Int) : Int × Bool := if 1 ≤ a ∧ 1 ≤ b then ((meetN a.toNat b.toNat : Nat), true) else (0, false)

theorem meet_same (a : Nat) : meetN a a = a := by rw [meetN, if_pos rfl]
theorem meet_left {a b : Nat} (h : b < a) : meetN a b = meetN (a / 2) b := by rw [meetN, if_neg (by omega), if_pos h]
theorem meet_right {a b : Nat} (h : a < b) : meetN a b = meetN a (b / 2) := by rw [meetN, if_neg (by omega), if_neg (by omega)]

/-- Halves of a product's left side. -/
theorem div_pw_succ (b k : Int) (h : 0 ≤ k) : b / pw (k + 1) = b / pw k / 2 := by
  rw [pw_succ h, Int.mul_comm, Int.ediv_ediv_of_nonneg (by have := pw_pos k; omega)]
theorem div_pw_zero (b : Int) : b / pw 0 = b := by rw [pw_zero, Int.ediv_one]
theorem lg_div {n k : Int} (hn : 1 ≤ n) (h0 : 0 ≤ k) (hk : k ≤ lg n) : 1 ≤ n / pw k ∧ lg (n / pw k) = lg n - k := by
  have key : ∀ m : Nat, (m : Int) ≤ lg n → 1 ≤ n / pw m ∧ lg (n / pw m) = lg n - m := by
    intro m
    induction m with
    | zero => intro _; rw [show ((0 : Nat) : Int) = 0 from rfl, div_pw_zero]; omega
    | succ m ih =>
      intro h
      obtain ⟨a, b⟩ := ih (by omega)
      rw [show ((m + 1 : Nat) : Int) = (m : Int) + 1 by omega, div_pw_succ _ _ (by omega)]
      have h2 : 2 ≤ n / pw m := by
        refine Int.not_lt.1 fun hh => ?_
        have e1 : n / pw m = 1 := by omega
        rw [e1, lg_one] at b
        omega
      have := lg_half h2
      omega
  have := key k.toNat (by omega)
  rwa [show ((k.toNat : Nat) : Int) = k by omega] at this

/-- Where the ways up meet, of integers. -/
def meetI (a b : Int) : Int := (meetN a.toNat b.toNat : Nat)
theorem meetI_same (a : Int) (h : 0 ≤ a) : meetI a a = a := by unfold meetI; rw [meet_same]; omega
theorem meetI_left {a b : Int} (hb : 0 ≤ b) (h : b < a) : meetI a b = meetI (a / 2) b := by
  unfold meetI
  rw [meet_left (by omega), show (a / 2).toNat = a.toNat / 2 by omega]
theorem meetI_right {a b : Int} (ha : 0 ≤ a) (h : a < b) : meetI a b = meetI a (b / 2) := by
  unfold meetI
  rw [meet_right (by omega), show (b / 2).toNat = b.toNat / 2 by omega]
theorem lt_of_lg {a b : Int} (ha : 1 ≤ a) (hb : 1 ≤ b) (h : lg b < lg a) : b < a := by
  refine Int.not_le.1 fun k => ?_
  have := lg_mono ha k
  omega
theorem meetI_half {x y : Int} (hx : 1 ≤ x) (hy : 1 ≤ y) (hne : x ≠ y) (hl : lg x = lg y) : 2 ≤ x ∧ 2 ≤ y ∧ meetI x y = meetI (x / 2) (y / 2) ∧ lg (x / 2) = lg (y / 2) := by
  have h2 : 2 ≤ x ∧ 2 ≤ y := by
    obtain ⟨a, b⟩ := lg_spec hx
    obtain ⟨c, d⟩ := lg_spec hy
    rw [hl] at a b
    have hp := pw_pos (lg y)
    by_cases e : pw (lg y) = 1
    · omega
    · omega
  obtain ⟨h3, h4⟩ := h2
  have ex := lg_half h3
  have ey := lg_half h4
  refine ⟨h3, h4, ?_, by omega⟩
  rcases Int.lt_or_gt_of_ne hne with h | h
  · rw [meetI_right (by omega) h, meetI_left (by omega) (lt_of_lg (by omega) (by omega) (by omega))]
  · rw [meetI_left (by omega) h, meetI_right (by omega) (lt_of_lg (by omega) (by omega) (by omega))]
theorem meetI_down {a b : Int} (ha : 1 ≤ a) (hb : 1 ≤ b) (k : Nat) (hk : (k : Int) ≤ lg a - lg b) : meetI a b = meetI (a / pw k) b := by
  have hl := lg_nonneg b
  induction k with
  | zero => rw [show ((0 : Nat) : Int) = 0 from rfl, div_pw_zero]
  | succ k ih =>
    obtain ⟨h1, h2⟩ := lg_div ha (show (0 : Int) ≤ k by omega) (by omega)
    rw [ih (by omega), meetI_left (by omega) (lt_of_lg h1 hb (by omega)), show ((k + 1 : Nat) : Int) = (k : Int) + 1 by omega, div_pw_succ _ _ (by omega)]
theorem meetI_comm (a b : Int) (ha : 0 ≤ a) (hb : 0 ≤ b) : meetI a b = meetI b a := by
  have key : ∀ (n a b : Nat), a + b ≤ n → meetN a b = meetN b a := by
    intro n
    induction n with
    | zero => intro a b h; obtain rfl : a = 0 := by omega
              obtain rfl : b = 0 := by omega
              rfl
    | succ n ih =>
      intro a b h
      rcases Nat.lt_trichotomy a b with k | k | k
      · rw [meet_right k, meet_left k]; exact ih _ _ (by omega)
      · rw [k]
      · rw [meet_left k, meet_right k]; exact ih _ _ (by omega)
  unfold meetI
  rw [key _ _ _ (Nat.le_refl _)]
theorem meetF_eq {a b : Int} (ha : 1 ≤ a) (hb : 1 ≤ b) : meetF a b = (meetI a b, true) := by unfold meetF; rw [if_pos ⟨ha, hb⟩]; rfl

theorem lg_lt {n l : Int} (h : 1 ≤ n) (hl : 0 ≤ l) : lg n < l ↔ n < pw l := by
  by_cases h0 : l = 0
  · subst h0
    have := lg_nonneg n
    rw [pw_zero]; omega
  · have h1 := lg_le h (show 0 ≤ l - 1 by omega)
    have h2 := pw_succ (show 0 ≤ l - 1 by omega)
    rw [show l - 1 + 1 = l by omega] at h2
    omega
/-- A way up by one more step. -/
theorem above_half {a y : Int} (ha : 1 ≤ a) (h : a < y) : aboveB a y = aboveB a (y / 2) := by
  have hy := lg_half (show 2 ≤ y by omega)
  have hm := lg_mono ha (show a ≤ y by omega)
  unfold aboveB
  apply decide_eq_decide.2
  by_cases e : lg a = lg y
  · rw [e, show lg y - lg y = 0 by omega, div_pw_zero]
    omega
  · have e1 : y / pw (lg y - lg a) = y / 2 / pw (lg (y / 2) - lg a) := by
      rw [show lg y - lg a = lg (y / 2) - lg a + 1 by omega, pw_succ (by omega), Int.ediv_ediv_of_nonneg (by omega)]
    rw [e1]
    omega
theorem above_end {a y : Int} (ha : 1 ≤ a) (h : y ≤ a) : aboveB a y = decide (a = y) := by
  unfold aboveB
  apply decide_eq_decide.2
  constructor
  · rintro ⟨_, h2, h3, h4⟩
    have := lg_mono h2 h
    rw [show lg y - lg a = 0 by omega, div_pw_zero] at h4
    omega
  · rintro rfl
    exact ⟨ha, ha, Int.le_refl _, by rw [show lg a - lg a = 0 by omega, div_pw_zero]⟩
theorem ends_bound {l id k : Int} (hl : 0 ≤ l) (h0 : 1 ≤ id) (h1 : id < 2 * pw l) (hk0 : 0 ≤ k) (hk : k ≤ l - lg id) : id * pw k + pw k ≤ 2 * pw l := by
  have hd0 := lg_nonneg id
  have hs := lg_spec h0
  have e : id * pw k + pw k = (id + 1) * pw k := by rw [Int.add_mul, Int.one_mul]
  have h2 : (id + 1) * pw k ≤ (2 * pw (lg id)) * pw k := Int.mul_le_mul_of_nonneg_right (by omega) (by have := pw_pos k; omega)
  rw [Int.mul_assoc, ← pw_add hd0 hk0] at h2
  have := pw_mono (show lg id + k ≤ l by omega)
  omega

/-- What a node's children hold. -/
theorem kids_facts {l id : Int} (hl : 1 ≤ l) (h0 : 1 ≤ id) (h : id < pw l) :
    2 * id < 2 * pw l ∧ 2 * id + 1 < 2 * pw l ∧ lg (2 * id) = lg id + 1 ∧ lg (2 * id + 1) = lg id + 1 ∧ lg id + 1 ≤ l ∧
    loF l (2 * id) = loF l id ∧ loF l (2 * id + 1) = loF l id + pw (l - (lg id + 1)) ∧ pw (l - lg id) = 2 * pw (l - (lg id + 1)) := by
  have hd0 := lg_nonneg id
  obtain ⟨s1, s2⟩ := lg_spec h0
  have hd := (lg_lt h0 (show 0 ≤ l by omega)).2 h
  have hs := pw_succ hd0
  have e1 : lg (2 * id) = lg id + 1 := lg_unique (by omega) (by rw [hs]; omega) (by rw [hs]; omega)
  have e2 : lg (2 * id + 1) = lg id + 1 := lg_unique (by omega) (by rw [hs]; omega) (by rw [hs]; omega)
  have hp : pw (l - lg id) = 2 * pw (l - (lg id + 1)) := by
    rw [← pw_succ (by omega)]; congr 1; omega
  refine ⟨by omega, by omega, e1, e2, by omega, ?_, ?_, hp⟩
  · unfold loF
    rw [e1, hs, hp, show 2 * id - 2 * pw (lg id) = 2 * (id - pw (lg id)) by omega, Int.mul_assoc, Int.mul_left_comm]
  · unfold loF
    rw [e2, hs, hp, show 2 * id + 1 - 2 * pw (lg id) = 2 * (id - pw (lg id)) + 1 by omega, Int.add_mul, Int.one_mul, Int.mul_assoc, Int.mul_left_comm]
/-- A node is above just the leaves of what it holds. -/
theorem above_leaf {l id x : Int} (hl : 1 ≤ l) (h0 : 1 ≤ id) (h1 : id < 2 * pw l) (hx0 : 0 ≤ x) (hx1 : x < pw l) :
    aboveB id (pw l + x) = true ↔ loF l id ≤ x ∧ x ≤ loF l id + pw (l - lg id) - 1 := by
  have hd0 := lg_nonneg id
  have hd1 := (lg_le h0 (show 0 ≤ l by omega)).2 h1
  have hp1 := pw_pos l
  have hpb := pw_pos (l - lg id)
  have e : lg (pw l + x) = l := lg_unique (by omega) (by omega) (by omega)
  have hm : id * pw (l - lg id) = loF l id + pw l := by
    unfold loF
    rw [Int.sub_mul, ← pw_add hd0 (by omega), show lg id + (l - lg id) = l by omega]
    omega
  unfold aboveB
  rw [decide_eq_true_iff, e]
  constructor
  · rintro ⟨_, _, _, h4⟩
    have a1 := Int.ediv_mul_le (pw l + x) (show pw (l - lg id) ≠ 0 by omega)
    have a2 := Int.lt_ediv_add_one_mul_self (pw l + x) (show 0 < pw (l - lg id) by omega)
    rw [h4] at a1 a2
    rw [Int.add_mul, Int.one_mul] at a2
    omega
  · rintro ⟨h2, h3⟩
    refine ⟨h0, by omega, hd1, ?_⟩
    have a1 : id ≤ (pw l + x) / pw (l - lg id) := (Int.le_ediv_iff_mul_le (by omega)).2 (by omega)
    have a2 : (pw l + x) / pw (l - lg id) < id + 1 := Int.ediv_lt_of_lt_mul (by omega) (by rw [Int.add_mul, Int.one_mul]; omega)
    omega
/-- A node that is grafted. -/
theorem graft_facts {l id k : Int} (hl : 1 ≤ l) (h0 : 1 ≤ id) (h1 : id < 2 * pw l) (hk : 0 ≤ k) :
    1 ≤ id - pw (lg id) + pw (lg id + k) ∧ id - pw (lg id) + pw (lg id + k) < 2 * pw (l + k) ∧ lg (id - pw (lg id) + pw (lg id + k)) = lg id + k ∧
    loF (l + k) (id - pw (lg id) + pw (lg id + k)) = loF l id ∧ l + k - (lg id + k) = l - lg id := by
  have hd0 := lg_nonneg id
  obtain ⟨s1, s2⟩ := lg_spec h0
  have hd1 := (lg_le h0 (show 0 ≤ l by omega)).2 h1
  have hm := pw_mono (show lg id ≤ lg id + k by omega)
  have hm2 := pw_mono (show lg id + k ≤ l + k by omega)
  have hp := pw_pos (lg id)
  have e : lg (id - pw (lg id) + pw (lg id + k)) = lg id + k := lg_unique (by omega) (by omega) (by omega)
  refine ⟨by omega, by omega, e, ?_, by omega⟩
  unfold loF
  rw [e, show id - pw (lg id) + pw (lg id + k) - pw (lg id + k) = id - pw (lg id) by omega, show l + k - (lg id + k) = l - lg id by omega]
/-- A node that is pruned, at a depth that it has. -/
theorem prune_same {l id k : Int} (h0 : 1 ≤ id) (hk : 0 ≤ k) (hd : lg id ≤ l - k) :
    loF l id / pw k = loF (l - k) id ∧ (loF l id + pw (l - lg id) - 1) / pw k = loF (l - k) id + pw (l - k - lg id) - 1 := by
  have hd0 := lg_nonneg id
  have hpk := pw_pos k
  have hp : pw (l - lg id) = pw (l - k - lg id) * pw k := by
    rw [← pw_add (by omega) hk]; congr 1; omega
  have e : loF l id = loF (l - k) id * pw k := by
    unfold loF
    rw [hp, Int.mul_assoc]
  refine ⟨by rw [e, Int.mul_ediv_cancel _ (by omega)], ?_⟩
  have e2 : loF l id + pw (l - lg id) - 1 = (pw k - 1) + (loF (l - k) id + pw (l - k - lg id) - 1) * pw k := by
    rw [e, hp, Int.sub_mul, Int.add_mul, Int.one_mul]
    omega
  rw [e2, Int.add_mul_ediv_right _ _ (by omega), Int.ediv_eq_zero_of_lt (by omega) (by omega)]
  omega
/-- .. and below. -/
theorem prune_less {l id k : Int} (h0 : 1 ≤ id) (h1 : id < 2 * pw l) (hk0 : 0 ≤ k) (hk1 : k < l) (hd : l - k < lg id) :
    1 ≤ id / pw (lg id - (l - k)) ∧ lg (id / pw (lg id - (l - k))) = l - k ∧ id / pw (lg id - (l - k)) < 2 * pw (l - k) ∧
    loF l id / pw k = loF (l - k) (id / pw (lg id - (l - k))) ∧ (loF l id + pw (l - lg id) - 1) / pw k = loF (l - k) (id / pw (lg id - (l - k))) + pw (l - k - (l - k)) - 1 := by
  have hd0 := lg_nonneg id
  have hd1 := (lg_le h0 (show 0 ≤ l by omega)).2 h1
  obtain ⟨a1, a2⟩ := lg_div h0 (show 0 ≤ lg id - (l - k) by omega) (by omega)
  have e1 : lg (id / pw (lg id - (l - k))) = l - k := by omega
  obtain ⟨_, b2⟩ := lg_spec a1
  rw [e1] at b2
  have hpj := pw_pos (lg id - (l - k))
  have hpb := pw_pos (l - lg id)
  have hk : pw k = pw (l - lg id) * pw (lg id - (l - k)) := by
    rw [← pw_add (by omega) (by omega)]; congr 1; omega
  have hpd : pw (lg id) = pw (l - k) * pw (lg id - (l - k)) := by
    rw [← pw_add (by omega) (by omega)]; congr 1; omega
  have e2 : (id - pw (lg id)) / pw (lg id - (l - k)) = id / pw (lg id - (l - k)) - pw (l - k) := by
    rw [hpd, Int.sub_eq_add_neg, ← Int.neg_mul, Int.add_mul_ediv_right _ _ (by omega)]
    omega
  have e3 : loF (l - k) (id / pw (lg id - (l - k))) = id / pw (lg id - (l - k)) - pw (l - k) := by
    unfold loF
    rw [e1, show l - k - (l - k) = 0 by omega, pw_zero, Int.mul_one]
  refine ⟨a1, e1, b2, ?_, ?_⟩
  · rw [e3, hk, ← Int.ediv_ediv_of_nonneg (by omega), show loF l id = (id - pw (lg id)) * pw (l - lg id) from rfl, Int.mul_ediv_cancel _ (by omega), e2]
  · have e4 : loF l id + pw (l - lg id) - 1 = (pw (l - lg id) - 1) + (id - pw (lg id)) * pw (l - lg id) := by
      unfold loF; omega
    have z : (pw (l - lg id) - 1) / pw (l - lg id) = 0 := Int.ediv_eq_zero_of_lt (by omega) (by omega)
    rw [e3, hk, ← Int.ediv_ediv_of_nonneg (by omega), e4, Int.add_mul_ediv_right _ _ (by omega), z, Int.zero_add, e2, show l - k - (l - k) = 0 by omega, pw_zero]
    omega
end TwigM
end Go.Proofs.YteebghoijaaakaaGreat
/- Bit operations on int64 of numbers that are not negative, as operations of natural numbers. By the prover of this repo. -/
namespace Go.Proofs.YteebghoijaaakaaGreat

theorem toNat_i64 (a : Nat) (ha : a < 9223372036854775808) : (BitVec.ofInt 64 (a : Int)).toNat = a := by
  rw [BitVec.ofInt_natCast, BitVec.toNat_ofNat]
  exact Nat.mod_eq_of_lt (by omega)
theorem or_i64 (a b : Nat) (ha : a < 9223372036854775808) (hb : b < 9223372036854775808) : bits .or .i64 (a : Int) (b : Int) = ((a ||| b : Nat) : Int) := by
  have hx : a ||| b < 2 ^ 63 := Nat.or_lt_two_pow (by omega) (by omega)
  have e : (BitVec.ofInt 64 (a : Int) ||| BitVec.ofInt 64 (b : Int)).toNat = a ||| b := by rw [BitVec.toNat_or, toNat_i64 a ha, toNat_i64 b hb]
  show IntKind.i64.wrap ((BitVec.ofInt 64 (a : Int) ||| BitVec.ofInt 64 (b : Int)).toNat : Int) = _
  rw [e, IntKind.wrap_i64]
  omega
theorem and_i64 (a b : Nat) (ha : a < 9223372036854775808) (hb : b < 9223372036854775808) : bits .and .i64 (a : Int) (b : Int) = ((a &&& b : Nat) : Int) := by
  have hx : a &&& b < 2 ^ 63 := Nat.and_lt_two_pow _ (by omega)
  have e : (BitVec.ofInt 64 (a : Int) &&& BitVec.ofInt 64 (b : Int)).toNat = a &&& b := by rw [BitVec.toNat_and, toNat_i64 a ha, toNat_i64 b hb]
  show IntKind.i64.wrap ((BitVec.ofInt 64 (a : Int) &&& BitVec.ofInt 64 (b : Int)).toNat : Int) = _
  rw [e, IntKind.wrap_i64]
  omega
theorem xor_i64 (a b : Nat) (ha : a < 9223372036854775808) (hb : b < 9223372036854775808) : bits .xor .i64 (a : Int) (b : Int) = ((a ^^^ b : Nat) : Int) := by
  have hx : a ^^^ b < 2 ^ 63 := Nat.xor_lt_two_pow (by omega) (by omega)
  have e : (BitVec.ofInt 64 (a : Int) ^^^ BitVec.ofInt 64 (b : Int)).toNat = a ^^^ b := by rw [BitVec.toNat_xor, toNat_i64 a ha, toNat_i64 b hb]
  show IntKind.i64.wrap ((BitVec.ofInt 64 (a : Int) ^^^ BitVec.ofInt 64 (b : Int)).toNat : Int) = _
  rw [e, IntKind.wrap_i64]
  omega
/-- A power of two, and a number below it. -/
theorem or_pow (k x : Nat) (hk : k ≤ 62) (hx : x < 2 ^ k) : bits .or .i64 ((2 ^ k : Nat) : Int) (x : Int) = ((2 ^ k + x : Nat) : Int) := by
  have hp : 2 ^ k ≤ 2 ^ 62 := Nat.pow_le_pow_right (by omega) hk
  rw [or_i64 _ _ (by omega) (by omega)]
  have := Nat.two_pow_add_eq_or_of_lt hx 1
  rw [Nat.mul_one] at this
  rw [this]
/-- The last bit turned. -/
theorem xor_one (x : Nat) (hx : x < 9223372036854775808) : bits .xor .i64 (x : Int) 1 = if (x : Int) % 2 = 0 then (x : Int) + 1 else (x : Int) - 1 := by
  have h := xor_i64 x 1 hx (by omega)
  have h2 : x ^^^ 1 = if x % 2 = 0 then x + 1 else x - 1 := by
    have hd : (x ^^^ 1) / 2 = x / 2 := by rw [Nat.xor_div_two]; simp
    have hm : (x ^^^ 1) % 2 = (x + 1) % 2 := by
      have h1 := Nat.xor_mod_two_pow (a := x) (b := 1) (n := 1)
      rw [Nat.pow_one] at h1
      rw [h1]
      rcases Nat.mod_two_eq_zero_or_one x with h2 | h2 <;> rw [h2] <;> simp <;> omega
    split <;> omega
  rw [show ((1 : Nat) : Int) = 1 from rfl] at h
  rw [h, h2]
  split <;> split <;> omega
end Go.Proofs.YteebghoijaaakaaGreat

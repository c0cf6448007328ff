/- A line's words: strings.Split at a blank, slices.Index of the table of words, the reference's split. By the prover of this repo. -/
import Derived.Test.YtcpakoobgcdekaaDoorLineG
import Derived.Test.YtcpakoobgcdekaaDoorLineT
import Derived.Test.YtcpakoobgcdekaaDoorOwn
import Derived.Test.YtcpakoobgcdekaaDoorLnL
import Derived.Shelf.Slices.Turned
import Derived.Shelf.Strings.Count
namespace Go.Proofs.YtcpakoobgcdekaaDoor
open Go.RowKit

theorem infoStr : (Tryd.prog.info? 9).map (fun i => (i.zero, i.size, i.bytes)) = some (some (.string ByteArray.empty), 1, 16) := by kernel_rfl
def sv (l : List ByteArray) : List Value := l.map Value.string
def sc (l : List ByteArray) (j : Nat) : Value := .string (l.getD j ByteArray.empty)
/-- A slice value reads as this list of texts. -/
def Sts (w : World) (v : Value) (l : List ByteArray) : Prop := ∃ A c, v = .slice A l.length c ∧ (A = none → l.length = 0) ∧ l.length ≤ c ∧ c ≤ maxLen ∧ Rd w A l.length 1 (sc l)
theorem Sts.kept {w w' : World} {v : Value} {l : List ByteArray} (h : Sts w v l) (hb : Below w.heap.size w w') : Sts w' v l := by
  obtain ⟨A, c, e, h1, h2, h3, h4⟩ := h
  exact ⟨A, c, e, h1, h2, h3, h4.kept hb⟩
theorem sv_length (l : List ByteArray) : (sv l).length = l.length := by simp [sv]
theorem sv_snoc (l : List ByteArray) (x : ByteArray) : sv (l ++ [x]) = sv l ++ [.string x] := by simp [sv]
theorem sv_get (l : List ByteArray) (i : Nat) (h : i < l.length) : (sv l)[i]? = some (sc l i) := by simp [sv, sc, h]
theorem elStr : Elem Tryd.prog 86 9 (.string ByteArray.empty) 1 16 := ⟨Tryd.underlying86, by kernel_rfl, rfl, by omega⟩
theorem st_at {w : World} {A : Option Addr} {l : List ByteArray} (h : Rd w A l.length 1 (sc l)) {k : Nat} (hk : k < l.length) :
    ∃ b off, A = some ⟨b, off, none⟩ ∧ b < w.heap.size ∧ w.cell? ⟨b, off + k, none⟩ = some (.string l[k]) := by
  obtain ⟨b, off, e, h1, h2⟩ := h (by omega)
  refine ⟨b, off, e, h1, ?_⟩
  have := h2 k (by omega)
  rw [this]
  unfold sc
  simp [hk]
theorem lit_sts (l : List ByteArray) (w : World) (t : TypeId) : Rd (w.alloc (.cells (sv l).toArray t)) (some ⟨w.heap.size, 0, none⟩) l.length 1 (sc l) :=
  Rd.of_blk (Blk.made w t _) 0 (by simp [sv_length]) (by intro i hi; rw [Nat.zero_add, List.getElem?_toArray]; exact sv_get l i (by omega))
theorem words_len (s : ByteArray) : 1 ≤ (wordsOf s).length ∧ (wordsOf s).length ≤ s.size + 1 := by
  unfold wordsOf
  rw [List.length_map]
  have := splitW_pos s.data.toList []
  rw [show s.data.toList.length = s.size by simp] at this
  exact this
theorem blank_count (s : ByteArray) : ((Lib.countB s ⟨#[32]⟩ : Nat) : Int) = ((Lib.countByte s.data.toList 32 : Nat) : Int) := by
  show ((Lib.count s.data.toList [32] : Nat) : Int) = _
  rw [Lib.count_one]
  rfl
theorem gen_split (s : ByteArray) (w : World) (hs : s.size < 4294967281) :
    Calls Tryd.prog 87 #[.string s, .string ⟨#[32]⟩, .int .i64 0, .int .i64 (-1)] w fun e w' => (∃ v, e = .returned v ∧ Sts w' v (wordsOf s)) ∧ Below w.heap.size w w' := by
  have hsp := split_words s.size s rfl
  have hle := Lib.countB_le ⟨#[32]⟩ (by decide) s.size s (Nat.le_refl _)
  have hlen := Lib.splitB_all ⟨#[32]⟩ (by decide) 0 _ s rfl
  have c := Any.strings_genSplit_core Tryd.ln221 infoStr s ⟨#[32]⟩ 0 (-1) (Lib.countB s ⟨#[32]⟩ + 1) w hs (by decide) (Nat.zero_le _)
    (fun x cs hx => (Any.strings_Index_one Tryd.ln143 x 32 _).mono fun e w' h => ⟨h.1.trans (by rw [show Lib.indexB x ⟨#[32]⟩ = Lib.indexByte x.data.toList 32 from Lib.index_one x.data.toList 32]), h.2⟩)
    ((Any.strings_Count_one Tryd.ln138 s 32 w).mono fun e w' h => ⟨h.1.trans (by rw [blank_count]), h.2⟩)
    (by decide) (by decide) (by rw [if_pos (by decide)]; omega)
  rw [Nat.add_sub_cancel, hsp] at c
  rw [hsp] at hlen
  refine (show Calls Tryd.prog 87 #[.string s, .string ⟨#[32]⟩, .int .i64 0, .int .i64 (-1)] w _ from c).mono ?_
  rintro e w' ⟨rfl, rfl⟩
  rw [← hlen]
  have e2 : Lib.cellsOf (wordsOf s) (wordsOf s).length = (sv (wordsOf s)).toArray := Lib.cellsOf_full _
  rw [e2]
  have hl := words_len s
  exact ⟨⟨_, rfl, _, _, rfl, (fun k => by cases k), Nat.le_refl _, by unfold maxLen; omega, lit_sts _ w _⟩, balloc0 _ _⟩
theorem str_split (s : ByteArray) (w : World) (hs : s.size < 4294967281) :
    Calls Tryd.prog 67 #[.string s, .string ⟨#[32]⟩] w fun e w' => (∃ v, e = .returned v ∧ Sts w' v (wordsOf s)) ∧ Below w.heap.size w w' := by
  have h := hide (gen_split s w hs)
  go_enter Tryd.func67, Tryd.ntmps67
  go_wp2_with (go_at_call 87; refine h.out.mono ?_; rintro e w1 ⟨⟨v, rfl, hv⟩, hb⟩; have hv := hide hv; have hb := hide hb)
  go_ret
  exact ⟨⟨_, rfl, hv.out⟩, hb.out⟩
/-- The place of a word in the table. -/
theorem index_word (t : ByteArray) (w : World) (hW : Wz w) :
    Calls Tryd.prog 85 #[.slice (some ⟨0, 0, none⟩) 19 19, .string t] w fun e w' => e = .returned (.int .i64 (opI t)) ∧ w = w' := by
  have h := Any.slices_Index_string Tryd.ln109 0 0 19 19 wordsB t w (by rw [wordsB_len]; omega) (by omega) (fun j hj => by
    rw [Nat.zero_add]
    exact hW.1 j (by rw [wordsB_len] at hj; exact hj))
  rw [List.take_of_length_le (by rw [wordsB_len]; omega)] at h
  exact h.mono fun e w' h => ⟨h.1, h.2.symm⟩
end Go.Proofs.YtcpakoobgcdekaaDoor

/- The commands' words: the program's table of them, which the rows list; the number of a word. By the prover of this repo. -/
import Derived.Test.YtcpakoobgcdekaaDoorRows
import Derived.Lib.LaidU8
import Derived.Lib.SlicesS
import Derived.Test.YtcpakoobgcdekaaDoorBase
import Derived.KernelRfl
namespace Go.Proofs.YtcpakoobgcdekaaDoor
open Go.RowKit

def wordsL : List (List UInt8) := [[], [110, 101, 119], [97, 100, 100], [112, 114, 101, 115, 115], [114, 97, 110, 107], [113, 117, 97, 110, 116], [98, 101, 116, 119, 101, 101, 110], [98, 105, 110, 115], [109, 101, 114, 103, 101], [99, 111, 112, 121], [103, 114, 111, 119], [99, 111, 97, 114, 115, 101, 110], [116, 117, 114, 110], [108, 111, 119, 101, 114], [100, 114, 111, 112], [115, 104, 111, 119], [110, 97, 109, 101, 115], [109, 101, 97, 110], [103, 97, 112]]
def wordsB : List ByteArray := wordsL.map fun l => ⟨l.toArray⟩
def wordB (j : Nat) : ByteArray := wordsB.getD j ByteArray.empty
def Wz (W : World) : Prop := (∀ j, j < 19 → W.cell? ⟨0, j, none⟩ = some (.string (wordB j))) ∧ 0 < W.heap.size
theorem Wz.kept {w w' : World} (h : Wz w) (hb : Below w.heap.size w w') : Wz w' := ⟨fun j hj => (hb.cell (p := ⟨0, j, none⟩) h.2).trans (h.1 j hj), Nat.lt_of_lt_of_le h.2 hb.size⟩
theorem Wz.of_below {B : Nat} {W w : World} (h : Wz W) (hB : W.heap.size ≤ B) (hb : Below B W w) : Wz w := h.kept (hb.mono hB)

/-- An array of strings that reads as these texts holds them, cell for cell. -/
theorem cells_of_strs {H : Type} {enc : TypeId × Value → H} {P : Program} {w : World} {base : Nat} {sp : Nat → Bool} {held : Bool} {fuel : Nat} {t e : TypeId} {n : Nat} {cs : List Value} {zs : List (List UInt8)} {p : List MemPlace}
    (ht : P.underlying t = some (.array n e)) (he : P.underlying e = some .string) (hce : P.cellsOf e = 1) (hct : P.cellsOf t = n)
    (h : DataW.trod enc P w base sp held fuel t cs = some (.agg (zs.map fun z => .lit (.string z)), p)) (i : Nat) (hi : i < n) : ∃ z, zs[i]? = some z ∧ cs[i]? = some (.string ⟨z.toArray⟩) := by
  cases fuel with
  | zero => simp [DataW.trod] at h
  | succ fuel =>
    simp only [DataW.trod, ht, hce, hct, Nat.mul_one] at h
    split at h
    · obtain ⟨xs, hm, hx⟩ := Option.map_eq_some_iff.1 h
      have hxs : xs.map (·.1) = zs.map fun z => (DataW.lit (.string z) : DataW H) := by
        have := congrArg Prod.fst hx
        simpa using this
      obtain ⟨b, hb, hf⟩ := Lib.mapM_at hm i i (by simp [hi])
      obtain ⟨s, hc, rfl, _⟩ := DataW.trod_string he hf
      have h1 : cs[i]? = some (.string s) := by
        have := congrArg (·[0]?) hc
        simpa [List.getElem?_take, List.getElem?_drop] using this
      have h2 : (xs.map (·.1))[i]? = some (DataW.lit (.string s.data.toList) : DataW H) := by simp [hb]
      rw [hxs] at h2
      simp only [List.getElem?_map, Option.map_eq_some_iff, DataW.lit.injEq, Lit.string.injEq] at h2
      obtain ⟨z, hz, rfl⟩ := h2
      exact ⟨_, hz, by rw [h1]⟩
    · cases h
theorem wz_laid {W : World} {l : List (String × DataW Unit)} {name : String} (hn : Tryd.prog.globalNamed name = some 0) (hm : (name, Rows.laid_dewpond_line_words) ∈ l) (h : laidMet Tryd.prog l W) : Wz W := by
  obtain ⟨g, t, cs, fuel, p, hg, hty, hv, hd⟩ := Lib.laidMet.reads h hm
  obtain rfl := Option.some.inj (hn.symm.trans hg)
  obtain rfl := Option.some.inj ((show (Tryd.prog.globals[0]?).map (·.type) = some 95 by kernel_rfl).symm.trans hty)
  have hc : ∀ j, j < 19 → W.cell? ⟨0, j, none⟩ = some (.string (wordB j)) := fun j hj => by
    obtain ⟨z, hz, hcz⟩ := cells_of_strs (zs := wordsL) Tryd.underlying95 Tryd.underlying9 (by kernel_rfl) (by kernel_rfl) hd j hj
    have h1 := World.var?_cell hg hv j
    rw [h1, ← Array.getElem?_toList, hcz]
    unfold wordB wordsB
    rw [List.getD_eq_getElem?_getD, List.getElem?_map, hz]
    rfl
  exact ⟨hc, World.block_lt_of_cell? W _ (hc 0 (by omega))⟩

/-- The number of a command's word; 0: it is none. -/
def opI (t : ByteArray) : Int := Lib.idxOfS wordsB t
def opF (t : ByteArray) : Nat := (opI t).toNat
theorem wordB_inj : ∀ i : Fin 19, ∀ j : Fin 19, wordB i.1 = wordB j.1 → i = j := by decide +kernel
theorem wordsB_len : wordsB.length = 19 := rfl
theorem opI_hit {t : ByteArray} {k : Nat} (hk : k < 19) (h : wordB k = t) : opI t = k := by
  unfold opI
  have := Lib.idxOfS_hit wordsB 19 k t hk (by rw [wordsB_len]; omega) h (fun j hj e => by
    have := wordB_inj ⟨j, by omega⟩ ⟨k, hk⟩ (e.trans h.symm)
    have := congrArg Fin.val this
    simp at this
    omega)
  rwa [List.take_of_length_le (by rw [wordsB_len]; omega)] at this
theorem opI_bd (t : ByteArray) : opI t = -1 ∨ ∃ k : Nat, k < 19 ∧ opI t = k ∧ wordB k = t := by
  by_cases h : ∃ k, k < 19 ∧ wordB k = t
  · obtain ⟨k, hk, e⟩ := h
    exact .inr ⟨k, hk, opI_hit hk e, e⟩
  · left
    unfold opI
    have := Lib.idxOfS_miss wordsB 19 t (fun j hj e => h ⟨j, hj, e⟩)
    rwa [List.take_of_length_le (by rw [wordsB_len]; omega)] at this
theorem opF_iff {t : ByteArray} {k : Nat} (h1 : 1 ≤ k) (hk : k < 19) : wordB k = t ↔ opF t = k := by
  unfold opF
  constructor
  · intro h
    rw [opI_hit hk h, Int.toNat_natCast]
  · intro h
    rcases opI_bd t with e | ⟨j, _, e, hj⟩
    · rw [e] at h; simp at h; omega
    · rw [e, Int.toNat_natCast] at h
      rw [← h]; exact hj
theorem opF_lt (t : ByteArray) : opF t < 19 := by
  unfold opF
  rcases opI_bd t with e | ⟨j, hj, e, _⟩
  · rw [e]; decide
  · rw [e, Int.toNat_natCast]; exact hj
theorem opI_pos {t : ByteArray} : 1 ≤ opI t ↔ opF t ≠ 0 := by unfold opF; omega
end Go.Proofs.YtcpakoobgcdekaaDoor

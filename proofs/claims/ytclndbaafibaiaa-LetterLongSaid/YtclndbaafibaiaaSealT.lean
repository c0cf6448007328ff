/- The walk of the law SealTells. By the prover of this repo. -/
import Derived.Test.YtclndbaafibaiaaSealL
namespace Go.Proofs.Ytclndbaafibaiaa
open Go.RowKit
open SealM

/-- The block g begins with these bytes, none of them frozen. -/
def Bts (w : World) (g : Nat) (l : List UInt8) : Prop := g < w.heap.size ∧ ∀ j (h : j < l.length), w.cell? ⟨g, j, none⟩ = some (.int .u8 (l[j].toNat : Int)) ∧ w.frozen? ⟨g, j, none⟩ = false
theorem Bts.made (w : World) (s : ByteArray) (cap : Nat) (e : TypeId) :
    Bts (w.drew.alloc (.cells (bytesRow s cap) e ((bytesRow s cap).size, (bytesRow s cap).size + 1))) w.heap.size s.data.toList := by
  have hsz : s.data.size ≤ (bytesRow s cap).size := by simp [bytesRow]
  refine ⟨by simp, fun j h => ?_⟩
  have hj : j < s.data.size := by simpa using h
  have h1 := World.cell?_alloc_mark w.drew (bytesRow s cap) e ((bytesRow s cap).size, (bytesRow s cap).size + 1) j
  have h2 := World.frozen?_alloc_mark w.drew (bytesRow s cap) e (bytesRow s cap).size ((bytesRow s cap).size + 1) j
  refine ⟨?_, ?_⟩
  · have h3 : (w.drew.alloc (.cells (bytesRow s cap) e ((bytesRow s cap).size, (bytesRow s cap).size + 1))).cell? ⟨w.heap.size, j, none⟩ = (bytesRow s cap)[j]? := h1
    rw [h3, bytesRow_at s cap j hj]
    simp
  · have h3 : (w.drew.alloc (.cells (bytesRow s cap) e ((bytesRow s cap).size, (bytesRow s cap).size + 1))).frozen? ⟨w.heap.size, j, none⟩ = (decide ((bytesRow s cap).size ≤ j) && decide (j < (bytesRow s cap).size + 1)) := h2
    rw [h3, decide_eq_false (by omega)]
    rfl
theorem Bts.set {w : World} {g : Nat} {l : List UInt8} (h : Bts w g l) (i : Nat) (c : UInt8) : Bts (w.setCell ⟨g, i, none⟩ (.int .u8 (c.toNat : Int))) g (l.set i c) := by
  refine ⟨by simpa [World.setCell] using h.1, fun j hj => ?_⟩
  have hj2 : j < l.length := by simpa using hj
  obtain ⟨h1, h2⟩ := h.2 j hj2
  refine ⟨?_, ?_⟩
  · by_cases e : i = j
    · subst e
      rw [World.cell?_setCell_same _ _ _ h1, List.getElem_set_self]
    · rw [World.cell?_setCell_other _ _ _ _ (fun k => e (by injection k)), h1, List.getElem_set_ne e]
  · rw [← h2]
    exact World.frozen?_setCell _ _ _ _
theorem Bts.kept {w w' : World} {g : Nat} {l : List UInt8} (h : Bts w g l) (hb : Below w.heap.size w w') : Bts w' g l :=
  ⟨by have := hb.size; have := h.1; omega, fun j hj => by
    obtain ⟨h1, h2⟩ := h.2 j hj
    exact ⟨(hb.cell (p := ⟨g, j, none⟩) h.1).trans h1, (hb.frozen (p := ⟨g, j, none⟩) h.1).trans h2⟩⟩
theorem Bts.back {P : Program} {w : World} {g n cap : Nat} {l : List UInt8} (h : Bts w g l) (hn : l.length = n) (src dst e : TypeId) (hs : P.underlying src = some (.slice e)) (he : P.underlying e = some (.int .u8)) (hd : P.underlying dst = some .string) :
    (convert src dst (.slice (some ⟨g, 0, none⟩) n cap)).run P w = .ok (.string ⟨l.toArray⟩) w := by
  subst hn
  refine run_convert_bytes_back w src dst e ⟨g, 0, none⟩ cap l hs he hd fun j hj => ?_
  have hadd : (⟨g, 0, none⟩ : Addr).add j = ⟨g, j, none⟩ := by unfold Addr.add; split <;> simp_all
  rw [hadd]
  exact (h.2 j hj).1

theorem openRes_iff (x : ByteArray) : (sumStr (SealM.of (x.data.toList.take (x.size - 4))) = x.extract (x.size - 4) x.size) ↔ OpensL x.data.toList := by
  unfold OpensL
  have e : x.data.toList.length = x.size := length_data x
  rw [e]
  constructor
  · intro h
    have h2 := congrArg (fun b : ByteArray => b.data.toList) h
    simp only [extract_drop] at h2
    exact h2
  · intro h
    apply str_ext
    rw [extract_drop]
    exact h
theorem openRes_yes {x : ByteArray} (hx : 4 ≤ x.size) (h : OpensL x.data.toList) : openRes x = (x.extract 0 (x.size - 4), 0) := by
  unfold openRes
  rw [if_neg (by omega), if_pos ((openRes_iff x).2 h)]
theorem openRes_no {x : ByteArray} (hx : 4 ≤ x.size) (h : ¬ OpensL x.data.toList) : openRes x = (⟨#[]⟩, 12) := by
  unfold openRes
  rw [if_neg (by omega), if_neg (fun k => h ((openRes_iff x).1 k))]
theorem sealed_list (s : ByteArray) : (sealed s).data.toList = sealL s.data.toList := data_append _ _
theorem sealed_size (s : ByteArray) : (sealed s).size = s.size + 4 := by unfold sealed; rw [ByteArray.size_append, sumStr_size]
theorem open_sealed (s : ByteArray) : openRes (sealed s) = (s, 0) := by
  rw [openRes_yes (by rw [sealed_size]; omega) (by rw [sealed_list]; exact opens_seal _)]
  congr 1
  apply str_ext
  rw [extract_take, sealed_list, sealed_size, show s.size + 4 - 4 = s.size by omega, ← length_data]
  unfold sealL
  exact List.take_left
end Go.Proofs.Ytclndbaafibaiaa

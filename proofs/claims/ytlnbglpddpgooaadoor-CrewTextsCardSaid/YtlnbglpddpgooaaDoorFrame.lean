/- What every law's last step shares: an argument that came in, opened into what its walk is told of it. By the prover of this repo. -/
import Derived.Test.YtlnbglpddpgooaaDoorBase
import Derived.ProofKit
import Derived.OpenShut
import Derived.ShutString
import Derived.ChangeOld
import Derived.SliceStrings
namespace Go.Proofs.YtlnbglpddpgooaaDoor
open Go.ChangeShapes Go.WideShapes Go.ChangeAt Go.RowKit

theorem own : ownKnob Tryd.prog.godebug = none := by kernel_rfl
theorem laidOut : laidOutB Tryd.prog = true := by kernel_rfl

theorem rd_cells {w : World} {a : Addr} {n size : Nat} {f : Nat → Value} (hs : 0 < size) (h : ∀ i, i < n * size → w.cell? (a.add i) = some (f i)) : Rd w (some a) n size f := fun hn => by
  have h0 := h 0 (Nat.mul_pos hn hs)
  have e0 : a.add 0 = a := by simp [Addr.add]
  rw [e0] at h0
  have hsp := World.cell?_spot h0
  have hlt := World.block_lt_of_cell? w a h0
  obtain ⟨b, off, spot⟩ := a
  simp only at hsp hlt
  subst hsp
  refine ⟨b, off, rfl, hlt, fun i hi => ?_⟩
  have e : (⟨b, off, none⟩ : Addr).add i = ⟨b, off + i, none⟩ := by unfold Addr.add; split <;> simp_all
  rw [← e]
  exact h i hi

theorem i64_bounds {n : Int} (h : (Lit.int .i64 n).wf = true) : -9223372036854775808 ≤ n ∧ n ≤ 9223372036854775807 := by
  have := bounds_i64 h
  omega
section
variable {H : Type} {enc : TypeId × Value → H} {P : Program} {w : World} {sp : Nat → Bool} {held : Bool} {r : Reach} {b0 : Nat}
theorem arg_ints {t e : TypeId} {k : IntKind} {v : Value} {d : DataW H} {p : List MemPlace} (ht : P.underlying t = some (.slice e)) (he : P.underlying e = some (.int k)) (hc : P.cellsOf e = 1)
    (hv : Value.okWide P w r b0 t v) (h : DataW.Trod enc P w 0 (fun _ => true) held t v d p) :
    ∃ (a : Option Addr) (n c : Nat) (z : List Int), v = .slice a n c ∧ z.length = n ∧ n ≤ c ∧ c ≤ maxLen ∧ Rd w a n 1 (fun i => .int k (z.getD i 0)) ∧ ∀ x ∈ z, (Lit.int k x).wf = true := by
  obtain ⟨a, n, c, rfl⟩ := okWide_slice ht hv
  obtain ⟨fuel, hf⟩ := h
  rcases open_ints ht he hc hf with ⟨hcs, _⟩ | ⟨x, l, c', zs, hcs, _, hl, hm, hz, _, hcell, hwz⟩
  · simp [Value.cells] at hcs
    obtain ⟨rfl, rfl, rfl⟩ := hcs
    exact ⟨none, 0, 0, [], rfl, rfl, Nat.le_refl _, by unfold maxLen; omega, Rd.zero _ _ _ _, by simp⟩
  · simp [Value.cells] at hcs
    obtain ⟨rfl, rfl, rfl⟩ := hcs
    simp at hz
    refine ⟨some x, n, c, zs.take n, rfl, by rw [List.length_take]; omega, hl, hm, ?_, fun y hy => hwz y (List.mem_of_mem_take hy)⟩
    refine rd_cells (by omega) fun i hi => ?_
    rw [hcell i (by omega)]
    simp [List.getElem?_take, show i < n by omega]
theorem arg_strs {t e : TypeId} {v : Value} {d : DataW H} {p : List MemPlace} (ht : P.underlying t = some (.slice e)) (he : P.underlying e = some .string) (hc : P.cellsOf e = 1)
    (hv : Value.okWide P w r b0 t v) (h : DataW.Trod enc P w 0 (fun _ => true) held t v d p) :
    ∃ (a : Option Addr) (n c : Nat) (z : List ByteArray), v = .slice a n c ∧ z.length = n ∧ n ≤ c ∧ c ≤ maxLen ∧ Rd w a n 1 (fun i => .string (z.getD i ByteArray.empty)) ∧ ∀ x ∈ z, x.size ≤ maxLen := by
  obtain ⟨a, n, c, rfl⟩ := okWide_slice ht hv
  obtain ⟨fuel, hf⟩ := h
  rcases open_strings ht he hc hf with ⟨hcs, _⟩ | ⟨x, l, c', zs, hcs, _, hl, hm, hz, _, hcell, hwz⟩
  · simp [Value.cells] at hcs
    obtain ⟨rfl, rfl, rfl⟩ := hcs
    exact ⟨none, 0, 0, [], rfl, rfl, Nat.le_refl _, by unfold maxLen; omega, Rd.zero _ _ _ _, by simp⟩
  · simp [Value.cells] at hcs
    obtain ⟨rfl, rfl, rfl⟩ := hcs
    simp at hz
    refine ⟨some x, n, c, zs.take n, rfl, by rw [List.length_take]; omega, hl, hm, ?_, fun y hy => hwz y (List.mem_of_mem_take hy)⟩
    refine rd_cells (by omega) fun i hi => ?_
    rw [hcell i (by omega)]
    simp [List.getElem?_take, show i < n by omega]
end
end Go.Proofs.YtlnbglpddpgooaaDoor

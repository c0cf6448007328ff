/- The library's table of trailing zeros, which the rows of this seat list: what the row's condition says of its cells. By the prover of this repo. -/
import Derived.Test.YtlnbglpddpgooaaDoorRows
import Derived.Lib.LaidTab
import Derived.Shelf.Spec.TrailingZeros
import Derived.Test.YtlnbglpddpgooaaDoorBase
import Derived.KernelRfl
namespace Go.Proofs.YtlnbglpddpgooaaDoor
open Go.RowKit

def tzTab : List Int := [0, 1, 56, 2, 57, 49, 28, 3, 61, 58, 42, 50, 38, 29, 17, 4, 62, 47, 59, 36, 45, 43, 51, 22, 53, 39, 33, 30, 24, 18, 12, 5, 63, 55, 48, 27, 60, 41, 37, 16, 46, 35, 44, 21, 52, 32, 23, 11, 54, 26, 40, 15, 34, 20, 31, 10, 25, 14, 19, 9, 13, 8, 7, 6]
/-- The table lies in the world, at its variable. -/
def Tz (W : World) : Prop := TabAt 0 Lib.deBruijn64tab W ∧ 0 < W.heap.size
theorem tz_same : ∀ i, i < 64 → tzTab.getD i 0 = ((Lib.deBruijn64tab.getD i 0 : Nat) : Int) := by decide
theorem tz_laid {W : World} {name : String} {rest : List (String × DataW Unit)} (hn : Tryd.prog.globalNamed name = some 0) (h : laidMet Tryd.prog ((name, Rows.laid_math_bits_deBruijn64tab) :: rest) W) : Tz W := by
  have hT := Lib.tabIs_of_head (k := .u8) (zs := tzTab) hn (show (Tryd.prog.globals[0]?).map (·.type) = some 65 by kernel_rfl) Tryd.underlying65 Tryd.underlying5 (by kernel_rfl) (by kernel_rfl) h
  have hc : ∀ i, i < 64 → W.cell? ⟨0, i, none⟩ = some (.int .u8 (tzTab.getD i 0)) := fun i hi => hT.cell hn i hi
  exact ⟨fun j hj => by rw [hc j hj, tz_same j hj], World.block_lt_of_cell? W _ (hc 0 (by omega))⟩
theorem Tz.kept {w w' : World} (h : Tz w) (hb : Below w.heap.size w w') : Tz w' := ⟨fun j hj => (hb.cell (p := ⟨0, j, none⟩) h.2).trans (h.1 j hj), Nat.lt_of_lt_of_le h.2 hb.size⟩
theorem Tz.of_below {B : Nat} {W w : World} (h : Tz W) (hB : W.heap.size ≤ B) (hb : Below B W w) : Tz w := h.kept (hb.mono hB)
theorem Tz.drewN {w : World} (h : Tz w) (n : Nat) : Tz (w.drewN n) := h
theorem Tz.alloc {w : World} (h : Tz w) (o : Obj) : Tz (w.alloc o) := h.kept ((Below.refl _ _).alloc (Nat.le_refl _) _)
end Go.Proofs.YtlnbglpddpgooaaDoor

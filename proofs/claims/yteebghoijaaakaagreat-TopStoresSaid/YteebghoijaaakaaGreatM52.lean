/- Part 52 of the proof: texts joined by this repo's tools/merge2.py (StrW). By the prover of this repo. -/
import Derived.Test.YteebghoijaaakaaGreatM51
import Derived.Test.YteebghoijaaakaaGreatM50
set_option linter.unusedVariables false
set_option linter.unusedSimpArgs false
/- The law TopStores: its walk, as the frame wants it. By the prover of this repo. -/
namespace Go.Proofs.YteebghoijaaakaaGreat
open Go.RowKit

/-- For any universe, any number, any k, any calls: the law returns true. -/
theorem topStores_walk (L y : Int) (a : Option Addr) (n c : Nat) (z : List Int) (a2 : Option Addr) (c2 : Nat) (hs : List TopM.Hop) (w : World)
    (_hL : -9223372036854775808 ≤ L ∧ L ≤ 9223372036854775807) (_hy : -9223372036854775808 ≤ y ∧ y ≤ 9223372036854775807) (hz : z.length = n) (_hn : n ≤ c) (_hc : c ≤ maxLen)
    (hr : Rd w a n 1 fun i => .int .i64 (z.getD i 0)) (hb : ∀ x ∈ z, (Lit.int .i64 x).wf = true) (hr2 : Rd w a2 hs.length 5 (CW.hpc hs)) (hb2 : ∀ h ∈ hs, CW.HopWf h) :
    Calls Tryz.prog 3 #[.int .i64 L, .int .i64 y, .slice a n c, .slice a2 hs.length c2] w fun e w' => e = .returned (.bool true) ∧ Below w.heap.size w w' := by
  subst hz
  exact CW.stores_main L y a a2 c c2 z hs w hr hr2 (fun k hk => i64_bounds (hb k hk)) hb2
end Go.Proofs.YteebghoijaaakaaGreat

/- Part 30 of the proof: texts joined by this repo's tools/merge2.py (ShtD). By the prover of this repo. -/
import Derived.Test.YteebghoijaaakaaGreatM27
import Derived.Test.YteebghoijaaakaaGreatM19
set_option linter.unusedVariables false
set_option linter.unusedSimpArgs false
/- The walk of sheet.three's closure: a number behind what stands ahead of it. By the prover of this repo. -/
namespace Go.Proofs.YteebghoijaaakaaGreat
namespace SH
open Go.RowKit
open WirM

theorem cutP_str (p q : List UInt8) : cutP (str (p ++ q)) (str p) = (str q, true) := by
  unfold cutP
  rw [if_pos ⟨by rw [str_size, str_size, List.length_append]; omega, str_take p q⟩]
  exact Prod.ext (str_cut p q) rfl
set_option maxRecDepth 100000 in
theorem three1_c (gl go n : Nat) (p r : List UInt8) (w : World) (hb : Blk w gl 9 #[.string (str (p ++ (digF n ++ r)))]) (ho : Blk w go 4 #[.bool true]) (hne : gl ≠ go) (hn : n ≤ 9223372036854775807) (hr : NoDig r) (hs : (digF n ++ r).length ≤ 1000000000) :
    Calls Tryz.prog 187 #[.string (str p), .pointer (some ⟨gl, 0, none⟩), .pointer (some ⟨go, 0, none⟩)] w fun e w' => e = .returned (.int .i64 n) ∧ w' = (w.setCell ⟨go, 0, none⟩ (.bool true)).setCell ⟨gl, 0, none⟩ (.string (str r)) := by
  have c0 := hb.cell 0
  have d0 := ho.cell 0
  have c1 := hb.free 0
  have d1 := ho.free 0
  have hl1 := hb.lt
  have hl2 := ho.lt
  have hC := hide (fun W => cut_prefix (str (p ++ (digF n ++ r))) (str p) W)
  rw [cutP_str] at hC
  have hN := hide (fun W => sheet_number (str (digF n ++ r)) W (by rw [str_size]; exact hs))
  have hnum : numF (str (digF n ++ r)).data.toList = (n, (digF n).length, true) := num_digF n hn r hr
  rw [hnum] at hN
  have e2 := hide (str_cut (digF n) r)
  have hle : (digF n).length ≤ (str (digF n ++ r)).size := by rw [str_size, List.length_append]; omega
  have hsz : (str (digF n ++ r)).size ≤ 1000000000 := by rw [str_size]; exact hs
  clear hnum hb ho hs
  generalize str (p ++ (digF n ++ r)) = S0 at *
  generalize str (digF n ++ r) = S1 at *
  generalize str p = P0 at *
  generalize (digF n).length = k at *
  go_enter Tryz.func187, Tryz.ntmps187
  go_wp2_with fail
  refine Calls.mono (hC.out _) ?_
  rintro e w1 ⟨rfl, rfl⟩
  go_wp2_with fail
  refine Calls.mono (hN.out _) ?_
  rintro e w1 ⟨rfl, rfl⟩
  go_wp2_with fail
  go_ret
  exact ⟨rfl, by rw [← e2.out]⟩
end SH
end Go.Proofs.YteebghoijaaakaaGreat

/- The law CrewTexts, walked. By the prover of this repo. -/
import Derived.Test.YtlnbglpddpgooaaDoorRefR
import Derived.Test.YtlnbglpddpgooaaDoorReadC
namespace Go.Proofs.YtlnbglpddpgooaaDoor
open Go.RowKit

set_option maxRecDepth 100000 in
set_option maxHeartbeats 1000000 in
theorem crewTexts_walk (bits : Int) (t : ByteArray) (w : World) (hT : Tz w) (hb : 0 ≤ bits ∧ bits ≤ 18446744073709551615) (_ht : t.size ≤ maxLen) :
    Calls Tryd.prog 6 #[.int .u64 bits, .string t] w fun e w' => e = .returned (.bool true) ∧ Below w.heap.size w w' := by
  obtain ⟨s, rfl⟩ := Int.eq_ofNat_of_zero_le hb.1
  have hs : s < 18446744073709551616 := by omega
  clear hb _ht
  have hA := hide (fun (W : World) (h : Below w.heap.size w W) => alive27 W (hT.of_below (Nat.le_refl _) h))
  by_cases h300 : t.size ≤ 300
  · have c1 := hide (crew_text s hs w hT)
    have c2 := hide (fun W => ref27_text s hs W)
    have c3 := hide (fun (W : World) (h : Below w.heap.size w W) => crew_read t (by omega) W (hT.of_below (Nat.le_refl _) h))
    have c4 := hide (fun W => ref27_read t (by omega) W)
    rw [readR_readF] at c4
    generalize textF s = T at *
    generalize readF t = R at *
    obtain ⟨a, x⟩ := T
    obtain ⟨c, z⟩ := R
    simp only [] at c1 c2 c3 c4
    have e1 : (a.toList == a.toList) = true := by simp
    have e2 : (x == x) = true := by simp
    have e3 : (c == c) = true := by simp
    have e4 : (z == z) = true := by simp
    clear hT
    go_enter Tryd.func6, Tryd.ntmps6
    go_wp2_with fail
    refine Calls.mono c1.out ?_
    rintro e w1 ⟨rfl, hb1⟩
    have hb1 := hide hb1
    go_wp2_with fail
    refine Calls.mono (c2.out _) ?_
    rintro e w2 ⟨rfl, hb2⟩
    have hb2 := hide (bthen hb1.out hb2)
    go_wp2_with fail
    refine Calls.mono (c3.out _ hb2.out) ?_
    rintro e w3 ⟨rfl, hb3⟩
    have hb3 := hide (bthen hb2.out hb3)
    go_wp2_with fail
    refine Calls.mono (c4.out _) ?_
    rintro e w4 ⟨rfl, hb4⟩
    have hb4 := hide (bthen hb3.out hb4)
    go_wp2_with fail
    refine Calls.mono (hA.out _ hb4.out) ?_
    rintro e w5 ⟨rfl, hb5⟩
    have hb5 := hide (bthen hb4.out hb5)
    go_wp2_with fail
    go_ret
    exact ⟨rfl, hb5.out⟩
  · go_enter Tryd.func6, Tryd.ntmps6
    go_wp2_with fail
    refine Calls.mono (hA.out _ (Below.refl _ _)) ?_
    rintro e w5 ⟨rfl, hb5⟩
    have hb5 := hide hb5
    go_wp2_with fail
    go_ret
    exact ⟨rfl, hb5.out⟩
end Go.Proofs.YtlnbglpddpgooaaDoor

/- The walks of the laws of layer 23: SealOpens, SealJoins. By the prover of this repo. -/
import Derived.Test.YtclndbaafibaiaaSealW
namespace Go.Proofs.Ytclndbaafibaiaa
open Go.RowKit
open SealM

set_option maxHeartbeats 400000 in
theorem sealOpens_walk (s : ByteArray) (w : World) (_hs : s.size ≤ maxLen) :
    Calls Try.prog 5 #[.string s] w fun e w' => e = .returned (.bool true) ∧ Below w.heap.size w w' := by
  by_cases hg : s.size ≤ 2000
  · go_enter Try.func5, Try.ntmps5
    go_wp2_with fail
    refine (seal_open s _ (by unfold maxLen; omega)).mono ?_
    rintro e w1 ⟨rfl, hb1⟩
    go_wp2_with fail
    refine (ref_open s _ (by omega)).mono ?_
    rintro e w2 ⟨rfl, hb2⟩
    go_wp2_with fail
    refine (seal_seal s _ (by omega)).mono ?_
    rintro e w3 ⟨rfl, hb3⟩
    go_wp2_with fail
    refine (ref_seal s _ (by omega)).mono ?_
    rintro e w4 ⟨rfl, hb4⟩
    go_wp2_with fail
    refine (alive23 _).mono ?_
    rintro e w5 ⟨rfl, hb5⟩
    go_wp2_with fail
    go_ret
    exact ⟨rfl, bthen (bthen (bthen (bthen hb1 hb2) hb3) hb4) hb5⟩
  · go_enter Try.func5, Try.ntmps5
    go_wp2_with fail
    refine (alive23 _).mono ?_
    rintro e w1 ⟨rfl, hb1⟩
    go_wp2_with fail
    go_ret
    exact ⟨rfl, hb1⟩

theorem data_append (a b : ByteArray) : (a ++ b).data.toList = a.data.toList ++ b.data.toList := by rw [ByteArray.data_append, Array.toList_append]
theorem length_data (a : ByteArray) : a.data.toList.length = a.size := by rw [Array.length_toList]; rfl

set_option maxHeartbeats 800000 in
theorem sealJoins_walk (a b : ByteArray) (w : World) (_ha : a.size ≤ maxLen) (_hb : b.size ≤ maxLen) :
    Calls Try.prog 4 #[.string a, .string b] w fun e w' => e = .returned (.bool true) ∧ Below w.heap.size w w' := by
  have hia := of_in a.data.toList
  have hib := of_in b.data.toList
  have hj := hide (more_join b.data.toList (SealM.of a.data.toList) hia)
  have hab : Hid (SealM.of (a ++ b).data.toList = more (SealM.of a.data.toList) b.data.toList) := by
    show SealM.of (a ++ b).data.toList = _
    rw [data_append]; exact more_append _ _ _
  have hlb := hide (length_data b)
  by_cases hg : 1000 < a.size
  · go_enter Try.func4, Try.ntmps4
    go_wp2_with fail
    refine (alive23 _).mono ?_
    rintro e w1 ⟨rfl, hb1⟩
    go_wp2_with fail
    go_ret
    exact ⟨rfl, hb1⟩
  by_cases hg2 : 1000 < b.size
  · go_enter Try.func4, Try.ntmps4
    go_wp2_with fail
    refine (alive23 _).mono ?_
    rintro e w1 ⟨rfl, hb1⟩
    go_wp2_with fail
    go_ret
    exact ⟨rfl, hb1⟩
  go_enter Try.func4, Try.ntmps4
  go_wp2_with fail
  refine (law_sum a _ (by unfold maxLen; omega)).mono ?_
  rintro e w1 ⟨rfl, hb1⟩
  go_wp2_with fail
  refine (law_sum b _ (by unfold maxLen; omega)).mono ?_
  rintro e w2 ⟨rfl, hb2⟩
  go_wp2_with fail
  refine (seal_join (SealM.of a.data.toList) (SealM.of b.data.toList) b.size _ hia hib (by omega) (by omega)).mono ?_
  have hj1 := hj.out
  rw [hlb.out] at hj1
  rw [← hj1, ← hab.out]
  clear hj1
  rintro e w3 ⟨rfl, hb3⟩
  go_wp2_with fail
  refine (law_sum (a ++ b) _ (by unfold maxLen; simp; omega)).mono ?_
  rintro e w4 ⟨rfl, hb4⟩
  go_wp2_with fail
  refine (law_sum a _ (by unfold maxLen; omega)).mono ?_
  rintro e w5 ⟨rfl, hb5⟩
  go_wp2_with fail
  refine (seal_begin _).mono ?_
  rintro e w6 ⟨rfl, hb6⟩
  go_wp2_with fail
  refine (seal_join_none (SealM.of a.data.toList) _ _ hia (by omega) (by omega)).mono ?_
  rintro e w7 ⟨rfl, hb7⟩
  go_wp2_with fail
  refine (law_sum a _ (by unfold maxLen; omega)).mono ?_
  rintro e w8 ⟨rfl, hb8⟩
  go_wp2_with fail
  refine (alive23 _).mono ?_
  rintro e w9 ⟨rfl, hb9⟩
  go_wp2_with fail
  go_ret
  exact ⟨rfl, bthen (bthen (bthen (bthen (bthen (bthen (bthen (bthen hb1 hb2) hb3) hb4) hb5) hb6) hb7) hb8) hb9⟩
end Go.Proofs.Ytclndbaafibaiaa

/- The law VaryPuts, walked. By the prover of this repo. -/
import Derived.Test.YtclndbaafibaiaaVaryS
import Derived.Test.YtclndbaafibaiaaFrame
namespace Go.Proofs.Ytclndbaafibaiaa
open Go.RowKit
open VaryM

theorem getD_le {z : List Int} (b : ∀ x ∈ z, (Lit.int .i64 x).wf = true) (i : Nat) : -9223372036854775808 ≤ z.getD i 0 ∧ z.getD i 0 ≤ 9223372036854775807 := by
  by_cases h : i < z.length
  · have : z.getD i 0 = z[i] := by simp [h]
    rw [this]
    have := i64_bounds (b _ (List.getElem_mem h))
    omega
  · have : z.getD i 0 = 0 := by simp [h]
    rw [this]
    omega

set_option maxRecDepth 100000 in
set_option maxHeartbeats 400000 in
theorem varyPuts_walk (a : Option Addr) (n c : Nat) (z : List Int) (x : Int) (w : World) (_hz : z.length = n) (hnc : n ≤ c) (hc : c ≤ maxLen) (r : Rd w a n 1 (fun i => .int .i64 (z.getD i 0))) (hb : ∀ x ∈ z, (Lit.int .i64 x).wf = true) (hx : -9223372036854775808 ≤ x ∧ x ≤ 9223372036854775807) :
    Calls Try.prog 7 #[.slice a n c, .int .i64 x] w fun e w' => e = .returned (.bool true) ∧ Below w.heap.size w w' := by
  have hf := hide (fun i (_ : i < n) => (getD_le hb i).2)
  unfold maxLen at hc
  by_cases hg : 200 < n
  · go_enter Try.func7, Try.ntmps7
    go_wp2_with fail
    refine (alive22 _).mono ?_
    rintro e w1 ⟨rfl, hb1⟩
    go_wp2_with fail
    go_ret
    exact ⟨rfl, hb1⟩
  generalize hF : (fun i => z.getD i 0) = F at hf
  have hFi : ∀ i, z.getD i 0 = F i := fun i => by rw [← hF]
  simp only [hFi] at r hf
  clear hF hFi hb
  by_cases h0 : 0 ≤ x
  · have hl9 := enc_len9 (n := x.toNat) (by omega)
    have hsz := encStr_size x
    go_enter Try.func7, Try.ntmps7
    go_wp2_with fail
    refine (vary_put a n c F _ r (by omega) hf.out).mono ?_
    rintro e w1 ⟨rfl, hb1⟩
    go_wp2_with fail
    refine (ref22_put a n c F _ (r.kept hb1) (by omega) hf.out).mono ?_
    rintro e w2 ⟨rfl, hb2⟩
    go_wp2_with fail
    refine (ref22_one x _ h0 hx.2).mono ?_
    rintro e w3 ⟨rfl, hb3⟩
    go_wp2_with fail
    refine (vary_size x _ hx.2).mono ?_
    rw [if_neg (by omega : ¬ x < 0)]
    rintro e w4 ⟨rfl, rfl⟩
    go_wp2_with fail
    refine (alive22 _).mono ?_
    rintro e w5 ⟨rfl, hb5⟩
    go_wp2_with fail
    go_ret
    exact ⟨rfl, bthen (bthen (bthen hb1 hb2) hb3) hb5⟩
  · go_enter Try.func7, Try.ntmps7
    go_wp2_with fail
    refine (vary_put a n c F _ r (by omega) hf.out).mono ?_
    rintro e w1 ⟨rfl, hb1⟩
    go_wp2_with fail
    refine (ref22_put a n c F _ (r.kept hb1) (by omega) hf.out).mono ?_
    rintro e w2 ⟨rfl, hb2⟩
    go_wp2_with fail
    refine (vary_size x _ hx.2).mono ?_
    rw [if_pos (by omega : x < 0)]
    rintro e w4 ⟨rfl, rfl⟩
    go_wp2_with fail
    refine (alive22 _).mono ?_
    rintro e w5 ⟨rfl, hb5⟩
    go_wp2_with fail
    go_ret
    exact ⟨rfl, bthen (bthen hb1 hb2) hb5⟩
end Go.Proofs.Ytclndbaafibaiaa

/- The walks of layer 2: reckon.Log, and each function of the package twig, once, by what it computes. By the prover of this repo. -/
import Derived.Test.YtkjihbaiofocgaaBits
import Derived.Test.YtkjihbaiofocgaaTwigM
namespace Go.Proofs.Ytkjihbaiofocgaa
open Go.RowKit
open TwigM

/-- Two results, a number and whether it is one. -/
abbrev nb (p : Int × Bool) : Value := .tuple #[.int .i64 p.1, .bool p.2]
abbrev nnb (p : Int × Int × Bool) : Value := .tuple #[.int .i64 p.1, .int .i64 p.2.1, .bool p.2.2]

theorem leaf_c (l x : Int) (w : World) (hx : x ≤ 9223372036854775807) :
    Calls Try.prog 38 #[.int .i64 l, .int .i64 x] w fun e w' => e = .returned (nb (leafF l x)) ∧ w = w' := by
  have hp : (2 : Int) ^ l.toNat = pw l := rfl
  have hp1 := pw_pos l
  unfold leafF
  by_cases hl : 1 ≤ l
  · by_cases hl2 : l ≤ 48
    · have hp2 := pw_le48 hl2
      by_cases h0 : 0 ≤ x
      · by_cases h1 : x < pw l
        · rw [if_pos ⟨hl, hl2, h0, h1⟩]
          go_enter Try.func38, Try.ntmps38
          go_wp2
          go_ret2
          refine ⟨ret2 (int_congr ?_) rfl, rfl⟩
          have h2 := or_pow l.toNat x.toNat (by omega) (by have := pw_nat l; omega)
          rw [← pw_nat, show ((x.toNat : Nat) : Int) = x by omega] at h2
          rw [h2]
          have := pw_nat l
          omega
        · rw [if_neg (by omega)]
          go_enter Try.func38, Try.ntmps38
          go_wp2
          go_ret2
          exact ⟨rfl, rfl⟩
      · rw [if_neg (by omega)]
        clear hp
        go_enter Try.func38, Try.ntmps38
        go_wp2
        go_ret2
        exact ⟨rfl, rfl⟩
    · rw [if_neg (by omega)]
      clear hp
      go_enter Try.func38, Try.ntmps38
      go_wp2
      go_ret2
      exact ⟨rfl, rfl⟩
  · rw [if_neg (by omega)]
    clear hp
    go_enter Try.func38, Try.ntmps38
    go_wp2
    go_ret2
    exact ⟨rfl, rfl⟩

end Go.Proofs.Ytkjihbaiofocgaa

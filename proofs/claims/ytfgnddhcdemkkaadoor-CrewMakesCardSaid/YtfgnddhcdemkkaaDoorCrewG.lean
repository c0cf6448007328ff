/- The law CrewMakes, walked. By the prover of this repo. -/
import Derived.Test.YtfgnddhcdemkkaaDoorCrewE
import Derived.Test.YtfgnddhcdemkkaaDoorPopW
namespace Go.Proofs.YtfgnddhcdemkkaaDoor
open Go.RowKit

theorem intL_length (l : List Nat) : (intL l).length = l.length := by unfold intL; rw [List.length_map]
set_option maxRecDepth 100000 in
set_option maxHeartbeats 4000000 in
theorem crewMakes_walk (A : Option Addr) (n c : Nat) (l : List Int) (bits i : Int) (w : World) (hT : Tz w) (hl : l.length = n) (hn : n ≤ c) (hc : c ≤ maxLen) (hr : Rd w A n 1 (fun i => .int .i64 (l.getD i 0))) (_hw : ∀ x ∈ l, (Lit.int .i64 x).wf = true)
    (hb : 0 ≤ bits ∧ bits ≤ 18446744073709551615) (_hi : -9223372036854775808 ≤ i ∧ i ≤ 9223372036854775807) :
    Calls Tryd.prog 5 #[.slice A n c, .int .u64 bits, .int .i64 i] w fun e w' => e = .returned (.bool true) ∧ Below w.heap.size w w' := by
  obtain ⟨s, rfl⟩ := Int.eq_ofNat_of_zero_le hb.1
  have hs : s < 18446744073709551616 := by omega
  clear hb
  unfold maxLen at hc
  by_cases h200 : n ≤ 200
  · have c1 := hide (fun W hR => crew_of A n c l W hl hR (by omega))
    have c2 := hide (fun W hR => ref27_of A n c l W hl hR (by omega))
    have c3 := hide (fun W => crew_right (s : Int) W)
    have c4 := hide (fun W => ref27_right (s : Int) W)
    have c5 := hide (fun W => crew_has (s : Int) i W (by omega) (by omega))
    have c6 := hide (fun W => ref27_has (s : Int) i W (by omega) (by omega))
    have c7 := hide (fun W => crew_len s hs W)
    have c8 := hide (ref27_list s hs w)
    have c9 := hide (fun W (h : Tz W) => alive27 W h)
    generalize ofF l = G at *
    obtain ⟨g, b⟩ := G
    simp only [] at c1 c2
    generalize decide ((s : Int) < 281474976710656) = r at *
    generalize hasF (s : Int) i = h at *
    have hlen := intL_length (bitsL s)
    have hl48 := bitsL_length s
    generalize bitsL s = L at *
    have e1 : (g == g) = true := by simp
    have e2 : (b == b) = true := by simp
    have e3 : (r == r) = true := by simp
    have e4 : (h == h) = true := by simp
    have hrH := hide hr
    clear hr
    have hTH := hide hT
    clear hT
    go_enter Tryd.func5, Tryd.ntmps5
    go_wp2_with (first
      | (go_at_call 18; refine (c1.out _ hrH.out).mono ?_; rintro e w1 ⟨rfl, rfl⟩)
      | (go_at_call 19; refine (c2.out _ hrH.out).mono ?_; rintro e w1 ⟨rfl, rfl⟩)
      | (go_at_call 20; refine (c3.out _).mono ?_; rintro e w1 ⟨rfl, rfl⟩)
      | (go_at_call 21; refine (c4.out _).mono ?_; rintro e w1 ⟨rfl, rfl⟩)
      | (go_at_call 22; refine (c5.out _).mono ?_; rintro e w1 ⟨rfl, rfl⟩)
      | (go_at_call 23; refine (c6.out _).mono ?_; rintro e w1 ⟨rfl, rfl⟩)
      | (go_at_call 24; refine (c7.out _).mono ?_; rintro e w1 ⟨rfl, rfl⟩)
      | (go_at_call 8; refine c8.out.mono ?_; rintro e w2 ⟨v, rfl, ⟨A2, cc, rfl, _⟩, hb2⟩; rw [hlen]; have hT2 := hide (hTH.out.of_below (Nat.le_refl _) hb2); have hb2 := hide hb2))
    refine (c9.out _ hT2.out).mono ?_
    rintro e w3 ⟨rfl, hb3⟩
    go_wp2_with fail
    go_ret
    exact ⟨rfl, bthen hb2.out hb3⟩
  · have c9 := hide (alive27 w hT)
    go_enter Tryd.func5, Tryd.ntmps5
    go_wp2_with fail
    refine c9.out.mono ?_
    rintro e w3 ⟨rfl, hb3⟩
    go_wp2_with fail
    go_ret
    exact ⟨rfl, hb3⟩
end Go.Proofs.YtfgnddhcdemkkaaDoor

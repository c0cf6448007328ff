/- The iterator over a set's sensors: (crew.Set).Each and its closure, by the contract that a range over it wants. By the prover of this repo. -/
import Derived.RangeFuncNested
import Derived.RangeFuncBound
import Derived.RangeFuncCalls
import Derived.RangeFuncLeaves
import Derived.Shelf.Abstract
import Derived.Shelf.RegionOpen
import Derived.OwnWalkIn
import Derived.TacticsInMore
import Derived.LoopNIn
import Derived.LoopIn
import Derived.Test.YtlnbglpddpgooaaDoorTab
import Derived.Test.YtlnbglpddpgooaaDoorTzL
import Derived.Test.YtlnbglpddpgooaaDoorBitL
namespace Go.Proofs.YtlnbglpddpgooaaDoor
open Go.RowKit Go.Shelf

attribute [local go_sem] Oper.semAt_some

theorem tz_c (x : Nat) (hx : x < 18446744073709551616) (w : World) (hT : Tz w) : Calls Tryd.prog 31 #[.int .u64 x] w fun e w' => e = .returned (.int .i64 (Lib.ctz 64 x)) ∧ w' = w :=
  Any7.bits_TrailingZeros64 Tryd.tzL x hx w (fun _ => hT.1)

/-- A sensor. -/
abbrev Sn := { x : Nat // x < 48 }
def encS (x : Sn) : Array Value := #[.int .i64 (x.1 : Int)]

theorem and_all (s : Nat) (hs : s < 18446744073709551616) : bits .and .u64 (s : Int) 281474976710655 = ((s % 281474976710656 : Nat) : Int) := by
  have h := and_u64 s 281474976710655 hs (by omega)
  rw [show ((281474976710655 : Nat) : Int) = 281474976710655 from rfl] at h
  rw [h]
  congr 1
  exact Nat.and_two_pow_sub_one_eq_mod s 48

theorem tz_low {n₀ : Nat} {w w' : World} (h : Tz w) (hg : 0 < n₀) (hb : Below n₀ w w') : Tz w' :=
  ⟨fun j hj => (hb.cell (p := ⟨0, j, none⟩) hg).trans (h.1 j hj), Nat.lt_of_lt_of_le h.2 hb.size⟩
set_option maxRecDepth 100000 in
set_option maxHeartbeats 1000000 in
/-- The closure: for every loop body that keeps what lay below n₀. -/
theorem each1_in (n : Nat) (hn : 1 ≤ n) (l p n₀ s : Nat) (hs : s < 18446744073709551616) (J Jx : List Sn → World → Prop)
    (hY : ∀ pre x W, J pre W → pre.length < 48 → YieldAt Fence.wide (n - 1) Tryd.prog l (encS x) W fun e W' =>
      (e = .returned (.bool true) ∧ J (pre ++ [x]) W' ∧ Below n₀ W W') ∨ (e = .returned (.bool false) ∧ Jx (pre ++ [x]) W'))
    (W : World) (hp : W.cell? ⟨p, 0, none⟩ = some (.int .u64 s)) (hT : Tz W) (hg : 0 < n₀) (h0 : J [] W) :
    CallsIn Fence.wide n Tryd.prog 30 #[.func (.yield l) #[] #[], .pointer (some ⟨p, 0, none⟩)] W fun e W' => (∃ v, e = .returned v) ∧
      ((∃ ys : List Sn, ys.map (·.1) = bitsL (s % 281474976710656) ∧ J ys W') ∨ (∃ pre : List Sn, pre.map (·.1) <+: bitsL (s % 281474976710656) ∧ Jx pre W')) := by
  have hand := and_all s hs
  have hm : s % 281474976710656 < 281474976710656 := Nat.mod_lt _ (by omega)
  generalize s % 281474976710656 = m at *
  refine callsIn_of_wp Tryd.func30 rfl trivial ?_ rfl
  simp only [Tryd.ntmps30, List.size_toArray, List.length_cons, List.length_nil, Nat.reduceAdd, Nat.reduceSub, Array.replicate_succ, Array.replicate_zero, List.push_toArray, List.append_toArray, List.nil_append, List.cons_append]
  gi_wp2
  gi_loopw [3] (fun v wr => ∃ (pre : List Sn) (r : Nat), v = .int .u64 r ∧ r < 281474976710656 ∧ Hid (pre.map (·.1) ++ bitsL r = bitsL m) ∧ Tz wr ∧ J pre wr) (fun v _ => (intOf v).toNat)
  case atStart => exact ⟨[], m, rfl, hm, rfl, hT, h0⟩
  case round =>
    obtain ⟨pre, r, rfl, hr, hL, hTr, hJs⟩ := hrel
    by_cases h0 : r = 0
    · subst h0
      have hres : Hid (pre.map (·.1) = bitsL m) := by show _ = _; rw [← hL.out, bitsL_zero, List.append_nil]
      gi_wp2
      go_end0
      exact ⟨⟨_, rfl⟩, .inl ⟨pre, hres.out, hJs⟩⟩
    · obtain ⟨hk, hfst⟩ := bitsL_first (Nat.pos_of_ne_zero h0) hr
      have hlt : r &&& (r - 1) < r := Nat.lt_of_le_of_lt Nat.and_le_right (by omega)
      have hpl : pre.length < 48 := by
        have h1 := congrArg List.length hL.out
        have h2 := bitsL_length m
        rw [hfst, List.length_append, List.length_map, List.length_cons] at h1
        omega
      have htz := fun W' hT' => tz_c r (by omega) W' hT'
      have hsub : ((r : Int) - 1) = ((r - 1 : Nat) : Int) := by omega
      have hand2 := and_u64 r (r - 1) (by omega) (by omega)
      rw [← hsub] at hand2
      generalize hr2 : r &&& (r - 1) = r2 at *
      generalize Lib.ctz 64 r = k at *
      obtain ⟨fn, tmps, assign, body, hy, hR⟩ := hY pre ⟨k, hk⟩ wr hJs hpl
      dsimp only [encS] at hy
      have hL2 : Hid ((pre ++ [(⟨k, hk⟩ : Sn)]).map (·.1) ++ bitsL r2 = bitsL m) := by show _ = _; rw [← hL.out, hfst, List.map_append, List.append_assoc]; rfl
      have hpre : Hid ((pre ++ [(⟨k, hk⟩ : Sn)]).map (·.1) <+: bitsL m) := ⟨bitsL r2, hL2.out⟩
      have hne : ((r : Int) != 0) = true := by simp; omega
      replace htz := hide htz
      have hTrH := hide hTr
      have hgH := hide hg
      clear hfst hL hsub hr2 hT hp
      gi_wp2_with (refine ⟨trivial, ?_⟩; gi_at_call 31; refine (callsIn_wide.2 (htz.out _ hTrH.out)).mono ?_; rintro e w' ⟨rfl, rfl⟩)
      refine hR.mono ?_
      rintro e W3 (⟨rfl, hJ3, hk3⟩ | ⟨rfl, hJx3⟩)
      · gi_wp2
        go_roundw
        case rel => exact ⟨pre ++ [⟨k, hk⟩], r2, rfl, by omega, hL2, (tz_low hTrH.out hgH.out hk3), hJ3⟩
        case measure => simp [intOf]; omega
      · gi_wp2
        refine bodyPost_ret (results_none rfl _ _ _) rfl ?_
        exact ⟨⟨_, rfl⟩, .inr ⟨_, hpre.out, hJx3⟩⟩

/-- s.Each(): the receiver is boxed; the function value captures the box. -/
theorem crew_each (s : Int) (w : World) : Calls Tryd.prog 9 #[.int .u64 s] w fun e w' => e = .returned (.func (.func 30) #[] #[.pointer (some ⟨w.heap.size, 0, none⟩)]) ∧ w' = w.alloc (.cells #[.int .u64 s] 27) := by
  go_enter Tryd.func9, Tryd.ntmps9
  go_wp2_with fail
  go_ret
  exact ⟨rfl, rfl⟩

/-- What s.Each() hands back goes over the set's sensors, rising; or over some of them, where a round has said 'no more'. -/
theorem each_stops (n : Nat) (hn : 1 ≤ n) (p n₀ s : Nat) (hs : s < 18446744073709551616) (w : World) (hpb : p < w.heap.size) (hp : w.cell? ⟨p, 0, none⟩ = some (.int .u64 s)) (hT : Tz w) (hg : 0 < n₀) :
    SeqStopsK Fence.wide n Tryd.prog 30 #[.pointer (some ⟨p, 0, none⟩)] encS (Below n₀) (fun ys => ys.map (·.1) = bitsL (s % 281474976710656)) (fun pre => pre.map (·.1) <+: bitsL (s % 281474976710656)) 48 w := fun l J Jx W hW _ _ hY h0 =>
  each1_in n hn l p n₀ s hs J Jx hY W ((hW.cell (p := ⟨p, 0, none⟩) hpb).trans hp) (hT.kept hW) hg h0
end Go.Proofs.YtlnbglpddpgooaaDoor

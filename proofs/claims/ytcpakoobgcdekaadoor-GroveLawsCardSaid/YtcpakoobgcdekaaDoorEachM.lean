/- The iterator over a set's sensors, once more: a round is told that its sensor is in the set. By the prover of this repo. -/
import Derived.Test.YtcpakoobgcdekaaDoorEach
namespace Go.Proofs.YtcpakoobgcdekaaDoor
open Go.RowKit Go.Shelf

attribute [local go_sem] Oper.semAt_some

/-- A sensor of a set. -/
abbrev Mb (m : Nat) := { x : Nat // x ∈ bitsL m }
def encM {m : Nat} (x : Mb m) : Array Value := #[.int .i64 (x.1 : Int)]
set_option maxRecDepth 100000 in
set_option maxHeartbeats 1000000 in
/-- The closure: for every loop body that keeps what lay below n₀. -/
theorem each1_mem (n : Nat) (hn : 1 ≤ n) (l p n₀ s : Nat) (hs : s < 18446744073709551616) (m : Nat) (hsm : s % 281474976710656 = m) (J Jx : List (Mb m) → World → Prop)
    (hY : ∀ pre x W, J pre W → pre.length < 48 → YieldAt Fence.wide (n - 1) Tryd.prog l (encM x) W fun e W' =>
      (e = .returned (.bool true) ∧ J (pre ++ [x]) W' ∧ Below n₀ W W') ∨ (e = .returned (.bool false) ∧ Jx (pre ++ [x]) W'))
    (W : World) (hp : W.cell? ⟨p, 0, none⟩ = some (.int .u64 s)) (hT : Tz W) (hg : 1 < n₀) (h0 : J [] W) :
    CallsIn Fence.wide n Tryd.prog 92 #[.func (.yield l) #[] #[], .pointer (some ⟨p, 0, none⟩)] W fun e W' => (∃ v, e = .returned v) ∧
      ((∃ ys : List (Mb m), ys.map (·.1) = bitsL m ∧ J ys W') ∨ (∃ pre : List (Mb m), pre.map (·.1) <+: bitsL m ∧ Jx pre W')) := by
  have hand := and_all s hs
  have hm : s % 281474976710656 < 281474976710656 := Nat.mod_lt _ (by omega)
  rw [hsm] at hand hm
  clear hsm
  refine callsIn_of_wp Tryd.func92 rfl trivial ?_ rfl
  simp only [Tryd.ntmps92, List.size_toArray, List.length_cons, List.length_nil, Nat.reduceAdd, Nat.reduceSub, Array.replicate_succ, Array.replicate_zero, List.push_toArray, List.append_toArray, List.nil_append, List.cons_append]
  gi_wp2
  gi_loopw [3] (fun v wr => ∃ (pre : List (Mb m)) (r : Nat), v = .int .u64 r ∧ r < 281474976710656 ∧ Hid (pre.map (·.1) ++ bitsL r = bitsL m) ∧ Tz wr ∧ J pre wr) (fun v _ => (intOf v).toNat)
  case atStart => exact ⟨[], m, rfl, hm, rfl, hT, h0⟩
  case round =>
    obtain ⟨pre, r, rfl, hr, hL, hTr, hJs⟩ := hrel
    by_cases h0 : r = 0
    · subst h0
      have hres : Hid (pre.map (·.1) = bitsL m) := by have h1 := hL.out; rw [bitsL_zero, List.append_nil] at h1; exact h1
      gi_wp2
      go_end0
      exact ⟨⟨_, rfl⟩, .inl ⟨pre, hres.out, hJs⟩⟩
    · obtain ⟨hk, hfst⟩ := bitsL_first (Nat.pos_of_ne_zero h0) hr
      have hkm : Lib.ctz 64 r ∈ bitsL m := by have h1 := hL.out; rw [hfst] at h1; rw [← h1]; simp
      have hlt : r &&& (r - 1) < r := Nat.lt_of_le_of_lt Nat.and_le_right (by omega)
      have hpl : pre.length < 48 := by
        have h1 := congrArg List.length hL.out
        have h2 := bitsL_length m
        rw [hfst, List.length_append, List.length_map, List.length_cons] at h1
        omega
      have htz := fun W' hT' => tz_c r (by omega) W' hT'
      have hsub : ((r : Int) - 1) = ((r - 1 : Nat) : Int) := by omega
      have hand2 := and_u64 r (r - 1) (by omega) (by omega)
      rw [← hsub] at hand2
      generalize hr2 : r &&& (r - 1) = r2 at *
      generalize Lib.ctz 64 r = k at *
      obtain ⟨fn, tmps, assign, body, hy, hR⟩ := hY pre ⟨k, hkm⟩ wr hJs hpl
      dsimp only [encM] at hy
      have hL2 : Hid ((pre ++ [(⟨k, hkm⟩ : Mb m)]).map (·.1) ++ bitsL r2 = bitsL m) := by have h1 := hL.out; rw [hfst] at h1; show _ = _; rw [List.map_append, List.append_assoc]; exact h1
      have hpre : Hid ((pre ++ [(⟨k, hkm⟩ : Mb m)]).map (·.1) <+: bitsL m) := ⟨bitsL r2, hL2.out⟩
      have hne : ((r : Int) != 0) = true := by simp; omega
      replace htz := hide htz
      have hTrH := hide hTr
      have hgH := hide hg
      clear hfst hL hsub hr2 hT hp
      gi_wp2_with (refine ⟨trivial, ?_⟩; gi_at_call 93; refine (callsIn_wide.2 (htz.out _ hTrH.out)).mono ?_; rintro e w' ⟨rfl, rfl⟩)
      refine hR.mono ?_
      rintro e W3 (⟨rfl, hJ3, hk3⟩ | ⟨rfl, hJx3⟩)
      · gi_wp2
        go_roundw
        case rel => exact ⟨pre ++ [⟨k, hkm⟩], r2, rfl, by omega, hL2, (tz_low hTrH.out hgH.out hk3), hJ3⟩
        case measure => simp [intOf]; omega
      · gi_wp2
        refine bodyPost_ret (results_none rfl _ _ _) rfl ?_
        exact ⟨⟨_, rfl⟩, .inr ⟨_, hpre.out, hJx3⟩⟩

theorem each_mem (n : Nat) (hn : 1 ≤ n) (p n₀ s : Nat) (hs : s < 18446744073709551616) (m : Nat) (hsm : s % 281474976710656 = m) (w : World) (hpb : p < w.heap.size) (hp : w.cell? ⟨p, 0, none⟩ = some (.int .u64 s)) (hT : Tz w) (hg : 1 < n₀) :
    SeqStopsK Fence.wide n Tryd.prog 92 #[.pointer (some ⟨p, 0, none⟩)] (encM (m := m)) (Below n₀) (fun ys => ys.map (·.1) = bitsL m) (fun pre => pre.map (·.1) <+: bitsL m) 48 w := fun l J Jx W hW _ _ hY h0 =>
  each1_mem n hn l p n₀ s hs m hsm J Jx hY W ((hW.cell (p := ⟨p, 0, none⟩) hpb).trans hp) (hT.kept hW) hg h0
end Go.Proofs.YtcpakoobgcdekaaDoor

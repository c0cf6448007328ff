/- A number's decimal digits: sheet.Digits and the reference's. By the prover of this repo. -/
import Derived.Test.YtlnbglpddpgooaaDoorOwn
namespace Go.Proofs.YtlnbglpddpgooaaDoor
open Go.RowKit

def dg (n : Nat) : UInt8 := UInt8.ofNat (48 + n % 10)
theorem dg_val (n : Nat) : (dg n).toNat = 48 + n % 10 := by
  unfold dg
  rw [UInt8.toNat_ofNat']
  have := Nat.mod_lt n (show 0 < 10 by omega)
  omega
/-- The digits, the greatest first. -/
def digF (n : Nat) : List UInt8 := if n < 10 then [dg n] else digF (n / 10) ++ [dg n]
termination_by n
decreasing_by omega
theorem digF_small {n : Nat} (h : n < 10) : digF n = [dg n] := by rw [digF, if_pos h]
theorem digF_more {n : Nat} (h : ¬ n < 10) : digF n = digF (n / 10) ++ [dg n] := by rw [digF, if_neg h]
theorem digF_ne (n : Nat) : digF n ≠ [] := by
  by_cases h : n < 10
  · rw [digF_small h]; simp
  · rw [digF_more h]; simp
/-- A number as a text. -/
def digS (n : Int) : ByteArray := if n < 0 then ⟨#[]⟩ else ⟨(digF n.toNat).toArray⟩

/-- The array's cells: so many are done. -/
theorem byte_cell {w : World} {H at_ : Nat} {cs : Array Value} {l : List UInt8} (hB : Blk w H 67 cs) (_hs : cs.size = 19) (_hl : l.length + at_ = 19) (hc : cs.toList.drop at_ = l.map bv) :
    (convert 68 9 (.slice (some ⟨H, at_, none⟩) l.length (19 - at_))).run Tryd.prog w = .ok (.string ⟨l.toArray⟩) w := by
  refine run_convert_bytes_back w _ _ 5 ⟨H, at_, none⟩ _ l Tryd.underlying68 Tryd.underlying5 Tryd.underlying9 fun j hj => ?_
  have hadd : (⟨H, at_, none⟩ : Addr).add j = ⟨H, at_ + j, none⟩ := by unfold Addr.add; split <;> simp_all
  rw [hadd, hB.cell, ← Array.getElem?_toList]
  have := congrArg (fun z => z[j]?) hc
  simp only [List.getElem?_drop, List.getElem?_map, List.getElem?_eq_getElem hj, Option.map_some] at this
  exact this
theorem pow10 (j n : Nat) (h : n < 10 ^ (j + 1)) : n / 10 < 10 ^ j := by
  rw [Nat.pow_succ] at h
  exact Nat.div_lt_of_lt_mul (by omega)

theorem slice19 (H j : Nat) (hj : j ≤ 18) (V : World) : (Instr.sliceAt 67 (.pointer (some ⟨H, 0, none⟩)) (some (.int .i64 (j : Int))) none none).run Tryd.prog V = .ok (.slice (some ⟨H, j, none⟩) (19 - j) (19 - j)) V := by
  have ha : Tryd.prog.arrayLen 67 = 19 := by kernel_rfl
  have he : Tryd.prog.elem 67 = 5 := by kernel_rfl
  have ht : Tryd.prog.underlying 67 = some (.array (Tryd.prog.arrayLen 67) (Tryd.prog.elem 67)) := by kernel_rfl
  rw [run_sliceAt_array_l V 67 ⟨H, 0, none⟩ ht .i64 (j : Int) (by omega) (by rw [ha]; omega), he, Tryd.sizeOf5 V]
  have hadd : (⟨H, 0, none⟩ : Addr).add j = ⟨H, j, none⟩ := by unfold Addr.add; split <;> simp_all
  simp only [Result.andThen_ok, slicedAt, ha, Int.toNat_natCast, Nat.mul_one]
  rw [if_neg (by omega), hadd]
/-- Between two rounds: where the next digit goes, what is left. -/
def DRel (N H : Nat) (w : World) (n at_ : Value) (wr : World) : Prop :=
  ∃ (j m : Nat) (cs : Array Value) (suf : List UInt8), n = .int .i64 m ∧ at_ = .int .i64 ((j : Int) + 1) ∧ j ≤ 18 ∧ Hid (m < 10 ^ (j + 1)) ∧ m ≤ 9223372036854775807 ∧ Blk wr H 67 cs ∧ cs.size = 19 ∧ suf.length + (j + 1) = 19 ∧ cs.toList.drop (j + 1) = suf.map bv ∧
    Hid (digF m ++ suf = digF N) ∧ Below H w wr

set_option maxRecDepth 100000 in
set_option maxHeartbeats 1000000 in
theorem sheet_digits (n : Int) (w : World) (h1 : n ≤ 9223372036854775807) : Calls Tryd.prog 36 #[.int .i64 n] w fun e w' => e = .returned (.string (digS n)) ∧ Below w.heap.size w w' := by
  unfold digS
  by_cases h0 : n < 0
  · rw [if_pos h0]
    go_enter Tryd.func36, Tryd.ntmps36
    go_wp2_with fail
    go_ret
    exact ⟨rfl, Below.refl _ _⟩
  · rw [if_neg h0]
    obtain ⟨N, rfl⟩ := Int.eq_ofNat_of_zero_le (show 0 ≤ n by omega)
    rw [Int.toNat_natCast]
    have hb0 := hide (balloc0 w (.cells (Array.replicate 19 (Value.int .u8 0)) 67))
    have hB0 : Hid (Blk (w.alloc (.cells (Array.replicate 19 (Value.int .u8 0)) 67)) w.heap.size 67 (Array.replicate 19 (Value.int .u8 0))) := Blk.made _ _ _
    have hp : N < 10 ^ (19 - 0) := by show N < 10000000000000000000; omega
    replace hp := hide hp
    go_enter Tryd.func36, Tryd.ntmps36
    go_wp2_with fail
    go_loopw [0, 4] (fun n at_ wr => DRel N w.heap.size w n at_ wr) (fun _ at_ _ => (intOf at_).toNat)
    case atStart => exact ⟨18, N, _, [], rfl, rfl, Nat.le_refl _, hp.out, by omega, hB0.out, by simp, rfl, by simp, by show _ = _; rw [List.append_nil], hb0.out⟩
    case round =>
      clear hb0 hB0 hp h0 h1
      obtain ⟨j, m, cs, suf, rfl, rfl, hj, hm, hm2, hB, hs, hsl, hdr, hgo, hbel⟩ := hrel
      have hp2 := hide (pow10 j m hm.out)
      have f0 : wr.frozen? ⟨w.heap.size, j, none⟩ = false := hB.free j
      have hlt : j < cs.size := by omega
      have hc0 : wr.cell? ⟨w.heap.size, j, none⟩ = some cs[j] := by rw [hB.cell]; simp
      have hB2 := hB.set j (.int .u8 (48 + (m : Int) % 10))
      have hdr2 : (cs.setIfInBounds j (.int .u8 (48 + (m : Int) % 10))).toList.drop j = (dg m :: suf).map bv := by
        rw [Array.toList_setIfInBounds, List.drop_eq_getElem_cons (by simp; omega), List.map_cons]
        congr 1
        · simp [bv, dg_val]
        · rw [List.drop_set_of_lt (by omega)]; exact hdr
      have hlen := hB.lt
      have hbel2 := hide (hbel.setCell (p := ⟨w.heap.size, j, none⟩) (Nat.le_refl _) (.int .u8 (48 + (m : Int) % 10)))
      have hmi : Hid ((m : Int) / 10 = ((m / 10 : Nat) : Int)) := by show _ = _; omega
      have hsl2 := fun V => slice19 w.heap.size j hj V
      have hsn : 19 - j = (dg m :: suf).length := by simp; omega
      rw [hsn] at hsl2
      replace hsn := hide hsn
      replace hdr2 := hide hdr2
      by_cases h10 : m < 10
      · have hres : Hid (digF N = dg m :: suf) := by show _ = _; rw [← hgo.out, digF_small h10]; rfl
        have hcvt := byte_cell hB2 (by simp [hs]) (l := dg m :: suf) (at_ := j) (by simp; omega) hdr2.out
        rw [hsn.out] at hcvt
        generalize (dg m :: suf).length = q at hsl2 hcvt
        go_wp2_with fail
        go_ret
        exact ⟨by rw [hres.out]; rfl, hbel2.out⟩
      · obtain ⟨i, rfl⟩ : ∃ i, j = i + 1 := by
          refine ⟨j - 1, ?_⟩
          have := hp2.out
          have hj0 : j ≠ 0 := fun h => by subst h; simp at this; omega
          omega
        have hgo2 : Hid (digF (m / 10) ++ (dg m :: suf) = digF N) := by show _ = _; rw [← hgo.out, digF_more h10, List.append_assoc]; rfl
        have hne : ((m : Int) / 10 == 0) = false := by simp; omega
        have hB3 := hide hB2
        clear hB2 hsl2
        go_wp2_with fail
        go_roundw
        case rel => exact ⟨i, m / 10, _, dg m :: suf, by rw [← hmi.out], by simp, by omega, hp2, by omega, hB3.out, by simp [hs], by simp; omega, hdr2.out, hgo2, hbel2.out⟩
        case measure => simp [intOf]; omega

theorem dg_text (V : World) (m : Nat) : (convert 68 9 (.slice (some ⟨V.heap.size, 0, none⟩) 1 1)).run Tryd.prog (V.alloc (.cells #[.int .u8 (48 + (m : Int) % 10)] 5)) = .ok (.string ⟨#[dg m]⟩) (V.alloc (.cells #[.int .u8 (48 + (m : Int) % 10)] 5)) := by
  have hB := Blk.made V 5 #[.int .u8 (48 + (m : Int) % 10)]
  refine run_convert_bytes_back _ _ _ 5 ⟨V.heap.size, 0, none⟩ 1 [dg m] Tryd.underlying68 Tryd.underlying5 Tryd.underlying9 fun j hj => ?_
  obtain rfl : j = 0 := by simpa using hj
  have hadd : (⟨V.heap.size, 0, none⟩ : Addr).add 0 = ⟨V.heap.size, 0, none⟩ := by simp [Addr.add]
  rw [hadd, hB.cell]
  simp [dg_val]

set_option maxRecDepth 100000 in
set_option maxHeartbeats 1000000 in
theorem ref25_digits (n : Int) (w : World) (h1 : n ≤ 9223372036854775807) : Calls Tryd.prog 38 #[.int .i64 n] w fun e w' => e = .returned (.string (digS n)) ∧ Below w.heap.size w w' := by
  unfold digS
  by_cases h0 : n < 0
  · rw [if_pos h0]
    go_enter Tryd.func38, Tryd.ntmps38
    go_wp2_with fail
    go_ret
    exact ⟨rfl, Below.refl _ _⟩
  · rw [if_neg h0]
    obtain ⟨N, rfl⟩ := Int.eq_ofNat_of_zero_le (show 0 ≤ n by omega)
    rw [Int.toNat_natCast]
    have hd := dg_text w N
    have hb0 := hide (balloc0 w (.cells #[.int .u8 (48 + (N : Int) % 10)] 5))
    go_enter Tryd.func38, Tryd.ntmps38
    go_wp2_with fail
    go_loopw [0, 3] (fun n s wr => ∃ (m : Nat) (l : List UInt8) (t : ByteArray), n = .int .i64 m ∧ s = .string t ∧ Hid (t = ⟨(dg m :: l).toArray⟩) ∧ t.size + m ≤ N + 1 ∧ m ≤ 9223372036854775807 ∧ Hid (digF m ++ l = digF N) ∧ Below w.heap.size w wr) (fun n _ _ => (intOf n).toNat)
    case atStart => exact ⟨N, [], _, rfl, rfl, rfl, by show 1 + N ≤ N + 1; omega, by omega, by show _ = _; rw [List.append_nil], hb0.out⟩
    case round =>
      clear hb0 hd h0
      obtain ⟨m, l, t, rfl, rfl, ht, hts, hm, hgo, hbel⟩ := hrel
      by_cases h10 : m < 10
      · have hres : Hid (digF N = dg m :: l) := by show _ = _; rw [← hgo.out, digF_small h10]; rfl
        go_wp2_with fail
        go_ret
        exact ⟨by rw [hres.out, ← ht.out]; rfl, hbel⟩
      · have hgo2 : Hid (digF (m / 10) ++ (dg m :: l) = digF N) := by show _ = _; rw [← hgo.out, digF_more h10, List.append_assoc]; rfl
        have hd := dg_text wr (m / 10)
        obtain ⟨q, hq⟩ : ∃ q : Nat, Hid (q = m / 10) := ⟨_, rfl⟩
        have hmi : (m : Int) / 10 = (q : Int) := by rw [hq.out]; omega
        have hdv : Int.tdiv (m : Int) 10 = (q : Int) := by rw [← hmi]; exact Int.tdiv_eq_ediv_of_nonneg (by omega)
        rw [← hq.out] at hd hgo2
        have hqb : q ≤ 922337203685477580 := by omega
        have hcat : (⟨#[dg q]⟩ : ByteArray).size + t.size ≤ 9223372036854775807 := by show 1 + t.size ≤ _; omega
        have hz := hbel.size
        have hbel2 := hide (hbel.alloc hz (.cells #[.int .u8 (48 + (q : Int) % 10)] 5))
        have hqm : q < m := by rw [hq.out]; omega
        clear hmi
        go_wp2_with fail
        go_roundw
        case rel => exact ⟨q, dg m :: l, _, rfl, rfl, by show _ = _; rw [ht.out]; apply ByteArray.ext; simp, by rw [ByteArray.size_append]; show 1 + t.size + q ≤ N + 1; omega, by omega, hgo2, hbel2.out⟩
        case measure => simp [intOf]; omega
end Go.Proofs.YtlnbglpddpgooaaDoor

/- The walks of layer 27, on: Union, the reference's List; the chapter's example. By the prover of this repo. -/
import Derived.Test.YtlnbglpddpgooaaDoorCrewD
namespace Go.Proofs.YtlnbglpddpgooaaDoor
open Go.RowKit

/-- A list of sensors as numbers. -/
def intL (l : List Nat) : List Int := l.map fun x : Nat => (x : Int)
set_option maxRecDepth 100000 in
theorem ref27_list (s : Nat) (hs : s < 18446744073709551616) (w : World) : Calls Tryd.prog 8 #[.int .u64 s] w fun e w' => ∃ v, e = .returned v ∧ Its w' v (intL (bitsL s)) ∧ Below w.heap.size w w' := by
  go_enter Tryd.func8, Tryd.ntmps8
  go_wp2_with fail
  go_loopw [3, 4] (fun out idx wr => ∃ (i : Nat), idx = .int .i64 i ∧ i ≤ 48 ∧ wr.ownsRow w.heap.size 3 1 out (intL ((List.range i).filter fun j => s.testBit j)).length (iv (intL ((List.range i).filter fun j => s.testBit j))) ∧ Below w.heap.size w wr) (fun _ idx _ => 48 - (intOf idx).toNat)
  case atStart => exact ⟨0, rfl, Nat.zero_le _, World.ownsRow_nil _ _ _ _, Below.refl _ _⟩
  case round =>
    obtain ⟨i, rfl, hi, how, hbel⟩ := hrel
    obtain ⟨Ao, co, rfl, ho1, ho2, ho3⟩ := own_form how
    have hz := hbel.size
    by_cases hlt : i < 48
    · have hB := fun W => ref27_bit (i : Int) W (by omega) (by omega)
      have hsn : (List.range (i + 1)).filter (fun j => s.testBit j) = (List.range i).filter (fun j => s.testBit j) ++ if s.testBit i = true then [i] else [] := by
        rw [List.range_succ, List.filter_append]
        congr 1
        cases h : s.testBit i <;> simp [h]
      have hll : (intL ((List.range i).filter fun j => s.testBit j)).length ≤ 48 := by
        unfold intL
        rw [List.length_map]
        have := List.length_filter_le (fun j => s.testBit j) (List.range i)
        rw [List.length_range] at this
        omega
      generalize (List.range i).filter (fun j => s.testBit j) = L at *
      have hp0 : (1 : Int) ≤ 2 ^ ((i : Int)).toNat := by rw [pow_i]; have := Nat.two_pow_pos ((i : Int)).toNat; omega
      have hdm : (s : Int) / 2 ^ ((i : Int)).toNat = ((s / 2 ^ i : Nat) : Int) := by rw [Int.toNat_natCast, pow_i]; omega
      have htb : s.testBit i = decide (s / 2 ^ i % 2 = 1) := by rw [Nat.testBit_eq_decide_div_mod_eq]
      have hq1 : s / 2 ^ i ≤ s := Nat.div_le_self _ _
      generalize (2 : Int) ^ ((i : Int)).toNat = p at *
      generalize s / 2 ^ i = q at *
      have hdv : Int.tdiv (s : Int) p = (q : Int) := by rw [← hdm]; exact Int.tdiv_eq_ediv_of_nonneg (by omega)
      have hne : (p == 0) = false := by simp; omega
      replace hB := hide hB
      have how := hide how
      have hbel := hide hbel
      obtain ⟨n, hn⟩ : ∃ n, Hid ((intL L).length = n) := ⟨_, rfl⟩
      rw [hn.out] at hll ho1 ho2 how ⊢
      by_cases hq : q % 2 = 1
      · rw [htb, decide_eq_true hq, if_pos rfl] at hsn
        have hsn := hide hsn
        clear htb
        go_wp2_with (first
          | (go_at_call 29; refine (hB.out _).mono ?_; rintro e w1 ⟨rfl, rfl⟩)
          | (at_builtin; refine wpList_app1 elInt rfl (.tmp 15) (.tmp 17) rfl w.heap.size _ _ _ [.int .i64 (i : Int)] 3 rfl how.out rfl rfl (one1 rfl) (by omega) hz ?_; intro v1 w1 how1 hb1 hgr1 hat1; have how1 := hide how1; have hb1 := hide hb1; clear hgr1 hat1))
        go_roundw
        case rel => exact ⟨i + 1, by simp, by omega, by rw [hsn.out, show intL (L ++ [i]) = intL L ++ [(i : Int)] by simp [intL], List.length_append, iv_snoc, hn.out]; exact how1.out, hbel.out.trans hb1.out⟩
        case measure => simp [intOf]; omega
      · rw [htb, decide_eq_false hq, if_neg (by decide), List.append_nil] at hsn
        have hsn := hide hsn
        have hqz : q % 2 = 0 := by omega
        clear htb
        go_wp2_with (go_at_call 29; refine (hB.out _).mono ?_; rintro e w1 ⟨rfl, rfl⟩)
        go_roundw
        case rel => exact ⟨i + 1, by simp, by omega, by rw [hsn.out, hn.out]; exact how.out, hbel.out⟩
        case measure => simp [intOf]; omega
    · obtain rfl : i = 48 := by omega
      have how := hide how
      have hbel := hide hbel
      go_wp2_with fail
      go_ret
      exact ⟨_, rfl, own_its rfl how.out, hbel.out⟩

/-- All that sets have. -/
def unionF (l : List Nat) : Nat := l.foldl (fun a b => a ||| b) 0
set_option maxRecDepth 100000 in
theorem crew_union (A : Option Addr) (c : Nat) (l : List Nat) (w : World) (hl : l.length ≤ 1000) (hb : ∀ x ∈ l, x < 18446744073709551616) (hr : Rd w A l.length 1 (fun i => .int .u64 ((l.getD i 0 : Nat) : Int))) :
    Calls Tryd.prog 11 #[.slice A l.length c] w fun e w' => e = .returned (.int .u64 (unionF l)) ∧ w = w' := by
  unfold unionF
  have hG : Hid ((l.drop 0).foldl (fun a b => a ||| b) 0 = l.foldl (fun a b => a ||| b) 0) := by show _ = _; rw [List.drop_zero]
  generalize l.foldl (fun a b => a ||| b) 0 = G at *
  obtain ⟨n, hn⟩ : ∃ n, Hid (l.length = n) := ⟨_, rfl⟩
  rw [hn.out] at hl hr ⊢
  have hbH := hide hb
  clear hb
  go_enter Tryd.func11, Tryd.ntmps11
  go_wp2_with fail
  go_loop [3, 8] (fun s k => ∃ (t i : Nat), i ≤ n ∧ t < 18446744073709551616 ∧ s = .int .u64 t ∧ k = .int .i64 i ∧ Hid ((l.drop i).foldl (fun a b => a ||| b) t = G)) (fun _ k => n - (intOf k).toNat)
  case atStart => exact ⟨0, 0, Nat.zero_le _, by omega, rfl, rfl, hG⟩
  case round =>
    clear hG
    obtain ⟨t, i, hi, ht, rfl, rfl, hgo⟩ := hrel
    by_cases hlt : i < n
    · have hil : i < l.length := by rw [hn.out]; exact hlt
      obtain ⟨b, off, rfl, hb, hc⟩ := hr (by omega)
      have hc1 : w.cell? ⟨b, off + i, none⟩ = some (.int .u64 ((l.getD i 0 : Nat) : Int)) := hc i (by omega)
      have e : l.getD i 0 = l[i] := by simp [hil]
      rw [e] at hc1
      rw [List.drop_eq_getElem_cons hil, List.foldl_cons] at hgo
      have hx := hbH.out l[i] (List.getElem_mem hil)
      clear hc e
      generalize l[i] = x at *
      have ho := or_u64 t x ht hx
      have hob : t ||| x < 2 ^ 64 := Nat.or_lt_two_pow (by omega) (by omega)
      rw [show (2 : Nat) ^ 64 = 18446744073709551616 from rfl] at hob
      generalize t ||| x = y at *
      go_wp2_with fail
      go_round
      case rel => exact ⟨y, i + 1, by omega, hob, by first | rfl | rw [ho], by go_num, hgo⟩
      case measure => simp [intOf]; omega
    · have hres : Hid (t = G) := by show _ = _; rw [← hgo.out, List.drop_of_length_le (by rw [hn.out]; omega)]; rfl
      go_wp2_with fail
      go_ret
      exact ⟨by rw [← hres.out]; rfl, rfl⟩

theorem ex_text : textF 39 = (⟨#[48, 45, 50, 44, 53]⟩, true) := by
  have hb : bitsL 39 = [0, 1, 2, 5] := by decide +kernel
  have hr : rowsF ((39 : Nat) : Int) [0, 1, 2, 5] = [⟨#[48, 45, 50]⟩, ⟨#[53]⟩] := by
    have h0 : hasF ((39 : Nat) : Int) (((0 : Nat) : Int) - 1) = false := by decide +kernel
    have h1 : hasF ((39 : Nat) : Int) (((1 : Nat) : Int) - 1) = true := by decide +kernel
    have h2 : hasF ((39 : Nat) : Int) (((2 : Nat) : Int) - 1) = true := by decide +kernel
    have h5 : hasF ((39 : Nat) : Int) (((5 : Nat) : Int) - 1) = false := by decide +kernel
    have e0 : endF ((39 : Nat) : Int) ((0 : Nat) : Int) = 2 := by decide +kernel
    have e5 : endF ((39 : Nat) : Int) ((5 : Nat) : Int) = 5 := by decide +kernel
    have d0 : digS ((0 : Nat) : Int) = ⟨#[48]⟩ := by unfold digS; rw [if_neg (by decide)]; show (⟨(digF 0).toArray⟩ : ByteArray) = _; rw [digF_small (by decide)]; rfl
    have d2 : digS 2 = ⟨#[50]⟩ := by unfold digS; rw [if_neg (by decide)]; show (⟨(digF 2).toArray⟩ : ByteArray) = _; rw [digF_small (by decide)]; rfl
    have d5 : digS ((5 : Nat) : Int) = ⟨#[53]⟩ := by unfold digS; rw [if_neg (by decide)]; show (⟨(digF 5).toArray⟩ : ByteArray) = _; rw [digF_small (by decide)]; rfl
    have r0 : rowF ((39 : Nat) : Int) 0 = ⟨#[48, 45, 50]⟩ := by unfold rowF; rw [e0, if_pos (by decide), d0, d2]; decide
    have r5 : rowF ((39 : Nat) : Int) 5 = ⟨#[53]⟩ := by unfold rowF; rw [e5, if_neg (by decide), d5]
    unfold rowsF
    simp only [List.filter_cons, List.filter_nil, h0, h1, h2, h5, Bool.not_false, Bool.not_true, if_true, Bool.false_eq_true, if_false, List.map_cons, List.map_nil, r0, r5]
  unfold textF
  rw [if_pos (by decide), hb, hr, if_neg (by simp)]
  decide +kernel

set_option maxRecDepth 100000 in
theorem alive27 (w : World) (hT : Tz w) : Calls Tryd.prog 10 #[] w fun e w' => e = .returned (.bool true) ∧ Below w.heap.size w w' := by
  have h1 := crew_of (some ⟨w.heap.size, 0, none⟩) 4 4 [5, 0, 1, 2] (w.alloc (.cells #[.int .i64 5, .int .i64 0, .int .i64 1, .int .i64 2] 3)) rfl (lit_its [5, 0, 1, 2] w 3) (by omega)
  rw [show ofF [5, 0, 1, 2] = (39, true) by decide +kernel] at h1
  have h2 := fun W hW => crew_text 39 (by omega) W hW
  rw [ex_text] at h2
  replace h1 := hide h1
  replace h2 := hide h2
  have hT2 := hide (hT.alloc (.cells #[.int .i64 5, .int .i64 0, .int .i64 1, .int .i64 2] 3))
  have hb0 := hide (balloc0 w (.cells #[.int .i64 5, .int .i64 0, .int .i64 1, .int .i64 2] 3))
  clear hT
  go_enter Tryd.func10, Tryd.ntmps10
  go_wp2_with (go_at_call 18; refine h1.out.mono ?_; rintro e w1 ⟨rfl, rfl⟩)
  refine (h2.out _ hT2.out).mono ?_
  rintro e w2 ⟨rfl, hb2⟩
  go_wp2_with fail
  go_ret
  exact ⟨rfl, bthen hb0.out hb2⟩
end Go.Proofs.YtlnbglpddpgooaaDoor

/- Sets of sensors, on: With, Less, Apart, Union, the reference's Of and List. By the prover of this repo. -/
import Derived.Test.YtcpakoobgcdekaaDoorGroveI
import Derived.Test.YtcpakoobgcdekaaDoorPopW
namespace Go.Proofs.YtcpakoobgcdekaaDoor
open Go.RowKit

theorem ref27_with (s i : Int) (w : World) (h0 : 0 ≤ s) (h1 : s < 18446744073709551616) : Calls Tryd.prog 84 #[.int .u64 s, .int .i64 i] w fun e w' => e = .returned (.int .u64 (withF s i)) ∧ w = w' := by
  have hI := fun W => ref27_is i W
  have hH := fun W => ref27_has s i W h0 h1
  have hbd := with_bd s i h0 h1
  unfold withF at *
  by_cases h : 0 ≤ i ∧ i < 48
  · rw [decide_eq_true h] at hI
    cases hh : hasF s i
    · rw [hh] at hH
      rw [if_pos ⟨h, rfl⟩]
      rw [if_pos ⟨h, hh⟩] at hbd
      have hB := fun W => ref27_bit i W h.1 (by omega)
      have hp0 : (0 : Int) ≤ 2 ^ i.toNat := by rw [pow_i]; exact Int.natCast_nonneg _
      generalize (2 : Int) ^ i.toNat = p at *
      replace hI := hide hI
      replace hH := hide hH
      replace hB := hide hB
      clear h hh
      go_enter Tryd.func84, Tryd.ntmps84
      go_wp2_with (first
        | (go_at_call 83; refine (hI.out _).mono ?_; rintro e w1 ⟨rfl, rfl⟩)
        | (go_at_call 94; refine (hH.out _).mono ?_; rintro e w1 ⟨rfl, rfl⟩)
        | (go_at_call 65; refine (hB.out _).mono ?_; rintro e w1 ⟨rfl, rfl⟩))
      go_ret
      exact ⟨rfl, rfl⟩
    · rw [hh] at hH
      rw [if_neg (fun k => by cases k.2)]
      replace hI := hide hI
      replace hH := hide hH
      clear h hh hbd
      go_enter Tryd.func84, Tryd.ntmps84
      go_wp2_with (first
        | (go_at_call 83; refine (hI.out _).mono ?_; rintro e w1 ⟨rfl, rfl⟩)
        | (go_at_call 94; refine (hH.out _).mono ?_; rintro e w1 ⟨rfl, rfl⟩))
      go_ret
      exact ⟨rfl, rfl⟩
  · rw [decide_eq_false h] at hI
    rw [if_neg (fun k => h k.1)]
    replace hI := hide hI
    clear h hbd hH
    go_enter Tryd.func84, Tryd.ntmps84
    go_wp2_with (go_at_call 83; refine (hI.out _).mono ?_; rintro e w1 ⟨rfl, rfl⟩)
    go_ret
    exact ⟨rfl, rfl⟩

/-- A set without a sensor. -/
theorem less_bits (s : Nat) (i : Int) (h1 : s < 18446744073709551616) : bits .andNot .u64 (s : Int) (oneF i) = lessF s i := by
  unfold lessF oneF
  by_cases h : 0 ≤ i ∧ i < 48
  · rw [if_pos h, has_nat s i h.1 h.2, pow_i]
    have hp := pow48 i h.2
    obtain ⟨c, hc, _, hj⟩ := andNot_u64 s (2 ^ i.toNat) h1 (by omega)
    rw [hc]
    cases hb : s.testBit i.toNat
    · rw [if_neg (by decide)]
      have : c = s := Nat.eq_of_testBit_eq fun j => by
        rw [hj, Nat.testBit_two_pow]
        by_cases e : i.toNat = j
        · subst e; rw [hb]; rfl
        · simp [e]
      rw [this]
    · rw [if_pos rfl]
      have hle := Nat.ge_two_pow_of_testBit hb
      have e2 : c ||| 2 ^ i.toNat = s := Nat.eq_of_testBit_eq fun j => by
        rw [Nat.testBit_or, hj, Nat.testBit_two_pow]
        by_cases e : i.toNat = j
        · subst e; rw [hb]; simp
        · simp [e]
      have e3 : c / 2 ^ i.toNat % 2 ≠ 1 := fun k => by
        have : c.testBit i.toNat = true := by rw [Nat.testBit_eq_decide_div_mod_eq]; simpa using k
        rw [hj, Nat.testBit_two_pow] at this
        simp at this
      rw [or_bit, if_neg e3] at e2
      omega
  · rw [if_neg h]
    have hf : hasF s i = false := by unfold hasF; exact decide_eq_false fun k => h ⟨k.1, k.2.1⟩
    rw [hf, if_neg (by decide)]
    obtain ⟨c, hc, _, hj⟩ := andNot_u64 s 0 h1 (by omega)
    rw [show ((0 : Nat) : Int) = 0 from rfl] at hc
    rw [hc]
    have : c = s := Nat.eq_of_testBit_eq fun j => by rw [hj]; simp
    rw [this]
theorem crew_less (s : Nat) (i : Int) (w : World) (h1 : s < 18446744073709551616) : Calls Tryd.prog 31 #[.int .u64 s, .int .i64 i] w fun e w' => e = .returned (.int .u64 (lessF s i)) ∧ w = w' := by
  have hb := less_bits s i h1
  have hO := fun W => crew_one i W
  generalize oneF i = o at hb hO
  generalize lessF s i = r at hb ⊢
  replace hb := hide hb
  replace hO := hide hO
  go_enter Tryd.func31, Tryd.ntmps31
  go_wp2_with (go_at_call 63; refine (hO.out _).mono ?_; rintro e w1 ⟨rfl, rfl⟩)
  go_ret
  exact ⟨ret_congr (int_congr hb.out), rfl⟩
/-- Whether none of a set is in another one. -/
def apartF (s t : Int) : Bool := bits .and .u64 s t == 0
theorem crew_apart (s t : Int) (w : World) : Calls Tryd.prog 36 #[.int .u64 s, .int .u64 t] w fun e w' => e = .returned (.bool (apartF s t)) ∧ w = w' := by
  go_enter Tryd.func36, Tryd.ntmps36
  go_wp2
  go_ret
  exact ⟨rfl, rfl⟩
theorem apart_iff (a b : Nat) (ha : a < 18446744073709551616) (hb : b < 18446744073709551616) : apartF (a : Int) (b : Int) = true ↔ ∀ j, ¬ (a.testBit j = true ∧ b.testBit j = true) := by
  unfold apartF
  rw [and_u64 a b ha hb, beq_iff_eq]
  constructor
  · intro h j k
    have h0 : a &&& b = 0 := by omega
    have := (nat_zero_iff _).1 h0 j
    rw [Nat.testBit_and, k.1, k.2] at this
    cases this
  · intro h
    have h0 : a &&& b = 0 := (nat_zero_iff _).2 fun j => by
      rw [Nat.testBit_and]
      cases h1 : a.testBit j <;> cases h2 : b.testBit j <;> simp_all
    omega

theorem ofGo_snd {s : Int} : ∀ l : List Int, ofGo s l = ofGo s l := fun _ => rfl
set_option maxRecDepth 100000 in
theorem ref27_of (a : Option Addr) (n c : Nat) (l : List Int) (w : World) (hl : l.length = n) (hr : Rd w a n 1 (fun i => .int .i64 (l.getD i 0))) (hn : n ≤ 1000000) :
    Calls Tryd.prog 61 #[.slice a n c] w fun e w' => e = .returned (.tuple #[.int .u64 (ofF l).1, .bool (ofF l).2]) ∧ w = w' := by
  unfold ofF
  generalize hG : ofGo 0 l = G
  replace hG := hide hG
  replace hl := hide hl
  go_enter Tryd.func61, Tryd.ntmps61
  go_wp2_with fail
  go_loop [4, 5] (fun s k => ∃ (t : Int) (i : Nat), i ≤ n ∧ 0 ≤ t ∧ t < 18446744073709551616 ∧ s = .int .u64 t ∧ k = .int .i64 i ∧ Hid (ofGo t (l.drop i) = G)) (fun _ k => n - (intOf k).toNat)
  case atStart => exact ⟨0, 0, by omega, by omega, by omega, rfl, rfl, by show _ = _; rw [List.drop_zero, hG.out]⟩
  case round =>
    obtain ⟨t, i, hi, ht0, ht1, rfl, rfl, hgo⟩ := hrel
    by_cases hlt : i < n
    · obtain ⟨b, off, rfl, hb, hc⟩ := hr (by omega)
      have hc1 : w.cell? ⟨b, off + i, none⟩ = some (.int .i64 (l.getD i 0)) := hc i (by omega)
      have hdrop : l.drop i = l.getD i 0 :: l.drop (i + 1) := by
        have h2 : i < l.length := by rw [hl.out]; exact hlt
        rw [List.drop_eq_getElem_cons h2]
        simp [h2]
      rw [hdrop] at hgo
      clear hdrop hc
      generalize l.getD i 0 = x at hc1 hgo
      have hI := fun W => ref27_is x W
      by_cases hx : 0 ≤ x ∧ x < 48
      · have hgo2 : Hid (ofGo (withF t x) (l.drop (i + 1)) = G) := by rw [← hgo.out]; show _ = ofGo t (_ :: _); rw [ofGo, if_pos hx]
        have hbd := with_bd t x ht0 ht1
        have hW := fun W => ref27_with t x W ht0 ht1
        generalize withF t x = t2 at hgo2 hbd hW
        replace hW := hide hW
        rw [decide_eq_true hx] at hI
        replace hI := hide hI
        obtain ⟨hx0, hx1⟩ := hx
        go_wp2_with (first | (go_at_call 83; refine (hI.out _).mono ?_; rintro e w1 ⟨rfl, rfl⟩) | (go_at_call 84; refine (hW.out _).mono ?_; rintro e w1 ⟨rfl, rfl⟩))
        go_round
        case rel => exact ⟨t2, i + 1, by omega, by omega, by omega, rfl, by go_num, hgo2⟩
        case measure => simp [intOf]; omega
      · have hres : Hid ((0, false) = G) := by rw [← hgo.out]; show _ = ofGo t (_ :: _); rw [ofGo, if_neg hx]
        rw [decide_eq_false hx] at hI
        replace hI := hide hI
        clear hx
        go_wp2_with (go_at_call 83; refine (hI.out _).mono ?_; rintro e w1 ⟨rfl, rfl⟩)
        go_ret2
        exact ⟨by rw [← hres.out]; rfl, rfl⟩
    · have hres : Hid ((t, true) = G) := by rw [← hgo.out, List.drop_of_length_le (by rw [hl.out]; omega)]; rfl
      go_wp2_with fail
      go_ret2
      exact ⟨by rw [← hres.out]; rfl, rfl⟩
set_option maxRecDepth 100000 in
theorem ref27_list (s : Nat) (hs : s < 18446744073709551616) (w : World) : Calls Tryd.prog 35 #[.int .u64 s] w fun e w' => ∃ v, e = .returned v ∧ Its w' v (intN (bitsL s)) ∧ Below w.heap.size w w' := by
  go_enter Tryd.func35, Tryd.ntmps35
  go_wp2_with fail
  go_loopw [3, 4] (fun out idx wr => ∃ (i : Nat), idx = .int .i64 i ∧ i ≤ 48 ∧ wr.ownsRow w.heap.size 3 1 out (intN ((List.range i).filter fun j => s.testBit j)).length (iv (intN ((List.range i).filter fun j => s.testBit j))) ∧ Below w.heap.size w wr) (fun _ idx _ => 48 - (intOf idx).toNat)
  case atStart => exact ⟨0, rfl, Nat.zero_le _, World.ownsRow_nil _ _ _ _, Below.refl _ _⟩
  case round =>
    obtain ⟨i, rfl, hi, how, hbel⟩ := hrel
    obtain ⟨Ao, co, rfl, ho1, ho2, ho3⟩ := own_form how
    have hz := hbel.size
    by_cases hlt : i < 48
    · have hB := fun W => ref27_bit (i : Int) W (by omega) (by omega)
      have hsn : (List.range (i + 1)).filter (fun j => s.testBit j) = (List.range i).filter (fun j => s.testBit j) ++ if s.testBit i = true then [i] else [] := by
        rw [List.range_succ, List.filter_append]
        congr 1
        cases h : s.testBit i <;> simp [h]
      have hll : (intN ((List.range i).filter fun j => s.testBit j)).length ≤ 48 := by
        unfold intN
        rw [List.length_map]
        have := List.length_filter_le (fun j => s.testBit j) (List.range i)
        rw [List.length_range] at this
        omega
      generalize (List.range i).filter (fun j => s.testBit j) = L at *
      have hp0 : (1 : Int) ≤ 2 ^ ((i : Int)).toNat := by rw [pow_i]; have := Nat.two_pow_pos ((i : Int)).toNat; omega
      have hdm : (s : Int) / 2 ^ ((i : Int)).toNat = ((s / 2 ^ i : Nat) : Int) := by rw [Int.toNat_natCast, pow_i]; omega
      have htb : s.testBit i = decide (s / 2 ^ i % 2 = 1) := by rw [Nat.testBit_eq_decide_div_mod_eq]
      have hq1 : s / 2 ^ i ≤ s := Nat.div_le_self _ _
      generalize (2 : Int) ^ ((i : Int)).toNat = p at *
      generalize s / 2 ^ i = q at *
      have hdv : Int.tdiv (s : Int) p = (q : Int) := by rw [← hdm]; exact Int.tdiv_eq_ediv_of_nonneg (by omega)
      have hne : (p == 0) = false := by simp; omega
      replace hB := hide hB
      have how := hide how
      have hbel := hide hbel
      obtain ⟨n, hn⟩ : ∃ n, Hid ((intN L).length = n) := ⟨_, rfl⟩
      rw [hn.out] at hll ho1 ho2 how ⊢
      by_cases hq : q % 2 = 1
      · rw [htb, decide_eq_true hq, if_pos rfl] at hsn
        have hsn := hide hsn
        clear htb
        go_wp2_with (first
          | (go_at_call 65; refine (hB.out _).mono ?_; rintro e w1 ⟨rfl, rfl⟩)
          | (at_builtin; refine wpList_app1 elInt rfl (.tmp 15) (.tmp 17) rfl w.heap.size _ _ _ [.int .i64 (i : Int)] 3 rfl how.out rfl rfl (one1 rfl) (by omega) hz ?_; intro v1 w1 how1 hb1 hgr1 hat1; have how1 := hide how1; have hb1 := hide hb1; clear hgr1 hat1))
        go_roundw
        case rel => exact ⟨i + 1, by simp, by omega, by rw [hsn.out, show intN (L ++ [i]) = intN L ++ [(i : Int)] by simp [intN], List.length_append, iv_snoc, hn.out]; exact how1.out, hbel.out.trans hb1.out⟩
        case measure => simp [intOf]; omega
      · rw [htb, decide_eq_false hq, if_neg (by decide), List.append_nil] at hsn
        have hsn := hide hsn
        have hqz : q % 2 = 0 := by omega
        clear htb
        go_wp2_with (go_at_call 65; refine (hB.out _).mono ?_; rintro e w1 ⟨rfl, rfl⟩)
        go_roundw
        case rel => exact ⟨i + 1, by simp, by omega, by rw [hsn.out, hn.out]; exact how.out, hbel.out⟩
        case measure => simp [intOf]; omega
    · obtain rfl : i = 48 := by omega
      have how := hide how
      have hbel := hide hbel
      go_wp2_with fail
      go_ret
      exact ⟨_, rfl, own_its rfl how.out, hbel.out⟩

/-- All that sets have. -/
def unionF (l : List Nat) : Nat := l.foldl (fun a b => a ||| b) 0
set_option maxRecDepth 100000 in
theorem crew_union (A : Option Addr) (c : Nat) (l : List Nat) (w : World) (hl : l.length ≤ 1000) (hb : ∀ x ∈ l, x < 18446744073709551616) (hr : Rd w A l.length 1 (fun i => .int .u64 ((l.getD i 0 : Nat) : Int))) :
    Calls Tryd.prog 37 #[.slice A l.length c] w fun e w' => e = .returned (.int .u64 (unionF l)) ∧ w = w' := by
  unfold unionF
  have hG : Hid ((l.drop 0).foldl (fun a b => a ||| b) 0 = l.foldl (fun a b => a ||| b) 0) := by show _ = _; rw [List.drop_zero]
  generalize l.foldl (fun a b => a ||| b) 0 = G at *
  obtain ⟨n, hn⟩ : ∃ n, Hid (l.length = n) := ⟨_, rfl⟩
  rw [hn.out] at hl hr ⊢
  have hbH := hide hb
  clear hb
  go_enter Tryd.func37, Tryd.ntmps37
  go_wp2_with fail
  go_loop [3, 8] (fun s k => ∃ (t i : Nat), i ≤ n ∧ t < 18446744073709551616 ∧ s = .int .u64 t ∧ k = .int .i64 i ∧ Hid ((l.drop i).foldl (fun a b => a ||| b) t = G)) (fun _ k => n - (intOf k).toNat)
  case atStart => exact ⟨0, 0, Nat.zero_le _, by omega, rfl, rfl, hG⟩
  case round =>
    clear hG
    obtain ⟨t, i, hi, ht, rfl, rfl, hgo⟩ := hrel
    by_cases hlt : i < n
    · have hil : i < l.length := by rw [hn.out]; exact hlt
      obtain ⟨b, off, rfl, hb, hc⟩ := hr (by omega)
      have hc1 : w.cell? ⟨b, off + i, none⟩ = some (.int .u64 ((l.getD i 0 : Nat) : Int)) := hc i (by omega)
      have e : l.getD i 0 = l[i] := by simp [hil]
      rw [e] at hc1
      rw [List.drop_eq_getElem_cons hil, List.foldl_cons] at hgo
      have hx := hbH.out l[i] (List.getElem_mem hil)
      clear hc e
      generalize l[i] = x at *
      have ho := or_u64 t x ht hx
      have hob : t ||| x < 2 ^ 64 := Nat.or_lt_two_pow (by omega) (by omega)
      rw [show (2 : Nat) ^ 64 = 18446744073709551616 from rfl] at hob
      generalize t ||| x = y at *
      go_wp2_with fail
      go_round
      case rel => exact ⟨y, i + 1, by omega, hob, by first | rfl | rw [ho], by go_num, hgo⟩
      case measure => simp [intOf]; omega
    · have hres : Hid (t = G) := by show _ = _; rw [← hgo.out, List.drop_of_length_le (by rw [hn.out]; omega)]; rfl
      go_wp2_with fail
      go_ret
      exact ⟨by rw [← hres.out]; rfl, rfl⟩
end Go.Proofs.YtcpakoobgcdekaaDoor

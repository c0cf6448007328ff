/- Layer 10: a bag that is added to; its bits, length and total; ranks. By the prover of this repo. -/
import Derived.Test.YtkjihbaiofocgaaBagU
namespace Go.Proofs.Ytkjihbaiofocgaa
open Go.RowKit
open TwigM BagM

theorem Bagged.same {w : World} {g : Nat} {L : Int} {l : List Rg} {v : Value} (h : BagAt w g L l v) : Bagged w g L l v w := ⟨v, h, Turn.refl _ _, fun _ h => .inl h⟩

set_option maxRecDepth 100000 in
theorem add_c (x n : Int) (g : Nat) (L : Int) (l : List Rg) (v : Value) (w : World) (h : BagAt w g L l v) (ho : Ok l) (hl : l.length ≤ 1000) (hL : 1 ≤ L ∧ L ≤ 48) (hx : x ≤ 9223372036854775807) (hn : -9223372036854775808 ≤ n ∧ n ≤ 9223372036854775807) :
    Calls Try.prog 12 #[.pointer (some ⟨g, 0, none⟩), .int .i64 x, .int .i64 n] w fun e w' => e = .returned (.int .i64 (addF L l x n).2) ∧ Bagged w g L (addF L l x n).1 v w' := by
  obtain ⟨c0, c1, c2, f1, f2, hg⟩ := bag_cells h
  have hs := Bagged.same h
  have hlf := fun W => leaf_c L x W hx
  have hr := fun (h0 : 1 ≤ n) => room_c n g L l v w h ho ⟨by omega, hn.2⟩
  have hp := fun (h0 : 1 ≤ n) (h1 : n ≤ 72057594037927935 - tot l) => put_c x n g L l v w h ho hl h0 h1
  by_cases h1 : x < 0 ∨ pw L ≤ x
  · have hF : Hid (addF L l x n = (l, 3)) := by show _ = _; unfold addF; rw [if_pos h1]
    have h2 : leafF L x = (0, false) := if_neg (by omega)
    rw [h2] at hlf
    rw [hF.out]
    replace hlf := hide hlf
    replace hs := hide hs
    clear h1 h2 hr hp h c1 c2
    go_enter Try.func12, Try.ntmps12
    go_wp2_with (go_at_call 38; refine (hlf.out _).mono ?_; rintro e w1 ⟨rfl, rfl⟩)
    go_ret
    exact ⟨rfl, hs.out⟩
  · have h2 : leafF L x = (pw L + x, true) := if_pos (by omega)
    rw [h2] at hlf
    by_cases h3 : n < 1
    · have hF : Hid (addF L l x n = (l, 4)) := by show _ = _; unfold addF; rw [if_neg h1, if_pos h3]
      rw [hF.out]
      replace hlf := hide hlf
      replace hs := hide hs
      clear h1 h2 hr hp h c1 c2
      go_enter Try.func12, Try.ntmps12
      go_wp2_with (go_at_call 38; refine (hlf.out _).mono ?_; rintro e w1 ⟨rfl, rfl⟩)
      go_ret
      exact ⟨rfl, hs.out⟩
    · replace hr := hr (by omega)
      by_cases h4 : 72057594037927935 - tot l < n
      · have hF : Hid (addF L l x n = (l, 5)) := by show _ = _; unfold addF; rw [if_neg h1, if_neg h3, if_pos h4]
        rw [hF.out]
        rw [decide_eq_false (by omega)] at hr
        replace hr := hide hr
        replace hlf := hide hlf
        replace hs := hide hs
        clear h1 h2 hp h c1 c2 h4
        go_enter Try.func12, Try.ntmps12
        go_wp2_with (first
          | (go_at_call 38; refine (hlf.out _).mono ?_; rintro e w1 ⟨rfl, rfl⟩)
          | (go_at_call 39; refine hr.out.mono ?_; rintro e w1 ⟨rfl, rfl⟩))
        go_ret
        exact ⟨rfl, hs.out⟩
      · have hF : Hid (addF L l x n = (put x n l, 0)) := by show _ = _; unfold addF; rw [if_neg h1, if_neg h3, if_neg h4]
        rw [hF.out]
        rw [decide_eq_true (by omega)] at hr
        replace hp := hp (by omega) (by omega)
        replace hr := hide hr
        replace hlf := hide hlf
        replace hp := hide hp
        clear h1 h2 h c1 c2 h4 hs
        go_enter Try.func12, Try.ntmps12
        go_wp2_with (first
          | (go_at_call 38; refine (hlf.out _).mono ?_; rintro e w1 ⟨rfl, rfl⟩)
          | (go_at_call 39; refine hr.out.mono ?_; rintro e w1 ⟨rfl, rfl⟩)
          | (go_at_call 40; refine hp.out.mono ?_; rintro e w1 ⟨⟨r, rfl⟩, hb⟩; replace hb := hide hb))
        go_ret
        exact ⟨rfl, hb.out⟩

theorem bagL_c (g : Nat) (L t : Int) (l : List Rg) (v : Value) (w : World) (h : BagT w g L t l v) :
    Calls Try.prog 31 #[.pointer (some ⟨g, 0, none⟩)] w fun e w' => e = .returned (.int .i64 L) ∧ w = w' := by
  obtain ⟨c0, c1, c2, f1, f2, hg⟩ := bag_cells h
  clear h
  go_enter Try.func31, Try.ntmps31
  go_wp2_with fail
  go_ret
  exact ⟨rfl, rfl⟩
theorem bagTotal_c (g : Nat) (L t : Int) (l : List Rg) (v : Value) (w : World) (h : BagT w g L t l v) :
    Calls Try.prog 23 #[.pointer (some ⟨g, 0, none⟩)] w fun e w' => e = .returned (.int .i64 t) ∧ w = w' := by
  obtain ⟨c0, c1, c2, f1, f2, hg⟩ := bag_cells h
  clear h
  go_enter Try.func23, Try.ntmps23
  go_wp2_with fail
  go_ret
  exact ⟨rfl, rfl⟩
theorem bagLen_c (g : Nat) (L t : Int) (l : List Rg) (v : Value) (w : World) (h : BagT w g L t l v) :
    Calls Try.prog 32 #[.pointer (some ⟨g, 0, none⟩)] w fun e w' => e = .returned (.int .i64 l.length) ∧ w = w' := by
  obtain ⟨c0, c1, c2, f1, f2, hg⟩ := bag_cells h
  obtain ⟨A, c, rfl⟩ := h.form
  clear h
  generalize l.length = n at *
  go_enter Try.func32, Try.ntmps32
  go_wp2_with fail
  go_ret
  exact ⟨rfl, rfl⟩

theorem seg_step (l : List Rg) (a b i : Nat) (ha : a ≤ i) (hi : i < b) (hb : b ≤ l.length) : seg l a (i + 1) = seg l a i + (l[i]'(by omega)).2 := by
  unfold seg
  have h1 : l.take (i + 1) = l.take i ++ [l[i]'(by omega)] := List.take_succ_eq_append_getElem (by omega)
  rw [h1, List.drop_append_of_le_length (by rw [List.length_take]; omega), tot_append]
  simp [tot]
theorem seg_zero (l : List Rg) (a b : Nat) (h : b ≤ a) : seg l a b = 0 := by
  unfold seg
  rw [List.drop_of_length_le (by rw [List.length_take]; omega)]
  rfl
theorem tot_sub : ∀ (l : List Rg) (a b : Nat), (∀ p ∈ l, 1 ≤ p.2) → 0 ≤ seg l a b ∧ seg l a b ≤ tot l := fun l a b h => by
  unfold seg
  have h1 : ∀ p ∈ l.take b, 1 ≤ p.2 := fun p hp => h p (List.mem_of_mem_take hp)
  have h2 : ∀ p ∈ (l.take b).drop a, 1 ≤ p.2 := fun p hp => h1 p (List.mem_of_mem_drop hp)
  have h3 := tot_nonneg _ h2
  have e1 : tot (l.take b) = tot ((l.take b).take a) + tot ((l.take b).drop a) := by rw [← tot_append, List.take_append_drop]
  have e2 : tot l = tot (l.take b) + tot (l.drop b) := by rw [← tot_append, List.take_append_drop]
  have h4 := tot_nonneg ((l.take b).take a) fun p hp => h1 p (List.mem_of_mem_take hp)
  have h5 := tot_nonneg (l.drop b) fun p hp => h p (List.mem_of_mem_drop hp)
  omega

set_option maxRecDepth 100000 in
theorem weigh_c (a b : Nat) (g : Nat) (L t : Int) (l : List Rg) (v : Value) (w : World) (h : BagT w g L t l v) (ho : Ok l) (hl : l.length ≤ 1000000) (hb : b ≤ l.length) (ha : a ≤ l.length) :
    Calls Try.prog 42 #[.pointer (some ⟨g, 0, none⟩), .int .i64 a, .int .i64 b] w fun e w' => e = .returned (.int .i64 (seg l a b)) ∧ w = w' := by
  obtain ⟨c0, c1, c2, f1, f2, hg⟩ := bag_cells h
  have hm := ho.most
  have hcell : Hid (∀ i, ∀ hi : i < l.length, ∃ bb c, v = .slice (some ⟨bb, 0, none⟩) l.length c ∧ w.cell? ⟨bb, i * 2 + 1, none⟩ = some (.int .i64 l[i].2)) := fun i hi => by
    obtain ⟨bb, c, e, _, d1⟩ := h.at hi
    exact ⟨bb, c, e, d1⟩
  have hseg := hide (fun a b => tot_sub l a b ho.pos)
  have hstep := hide (fun i => seg_step l a b i)
  have hz := hide (seg_zero l a b)
  have hz0 := hide (seg_zero l a a (Nat.le_refl _))
  have hp := hide (fun i (hi : i < l.length) => tot_le l ho.pos l[i] (List.getElem_mem hi))
  have hp1 := hide (fun i (hi : i < l.length) => ho.pos l[i] (List.getElem_mem hi))
  have hbi : (b : Int) ≤ 1000000 := by omega
  clear h ho
  go_enter Try.func42, Try.ntmps42
  go_wp2_with fail
  go_loop [7, 8] (fun s k => ∃ i : Nat, a ≤ i ∧ (i ≤ b ∨ i = a) ∧ s = .int .i64 (seg l a i) ∧ k = .int .i64 i) (fun _ k => b - (intOf k).toNat)
  case atStart => exact ⟨a, by omega, by omega, by rw [hz0.out], rfl⟩
  case round =>
    obtain ⟨i, hai, hib, rfl, rfl⟩ := hrel
    have hs1 := (hseg.out a i).1
    have hs2 := (hseg.out a i).2
    by_cases hlt : i < b
    · have hil : i < l.length := by omega
      obtain ⟨bb, c, rfl, d1⟩ := hcell.out i hil
      have hst := hide (hstep.out i hai hlt hb)
      have hy1 := hp.out i hil
      have hy2 := hp1.out i hil
      have hsn := hide (hseg.out a (i + 1))
      have hlen : (i : Int) < (l.length : Int) := by omega
      obtain ⟨y, hy⟩ : ∃ y, l[i].2 = y := ⟨_, rfl⟩
      rw [hy] at d1 hy1 hy2
      have hst2 : Hid (seg l a (i + 1) = seg l a i + y) := by rw [hst.out, hy]; rfl
      clear hy hst
      generalize seg l a i = s at *
      go_wp2_with fail
      go_round
      case rel => exact ⟨i + 1, by omega, by omega, by rw [hst2.out], by go_num⟩
      case measure => simp [intOf]; omega
    · have hres : Hid (seg l a i = seg l a b) := by
        show _ = _
        rcases hib with hib | hib
        · have : i = b := by omega
          rw [this]
        · rw [hib, hz0.out, hz.out (by omega)]
      generalize seg l a i = s at *
      go_wp2_with fail
      go_ret
      exact ⟨by rw [← hres.out]; rfl, rfl⟩
end Go.Proofs.Ytkjihbaiofocgaa

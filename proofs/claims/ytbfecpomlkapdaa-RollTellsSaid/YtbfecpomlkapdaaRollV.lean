/- The walks of layer 6, on: the reference's sum, whether a list is a roll, a node's weight, whether two are the same. By the prover of this repo. -/
import Derived.Test.YtbfecpomlkapdaaRollW
namespace Go.Proofs.Ytbfecpomlkapdaa
open Go.RowKit
open TwigM RollM

set_option maxRecDepth 100000 in
theorem ref06_total (A : Option Addr) (c : Nat) (l : List Nd) (w : World) (hr : Rd w A l.length 2 (ndc l)) (hl : l.length ≤ 1000000) (hwf : NdWf l) :
    Calls Try.prog 47 #[.slice A l.length c] w fun e w' => e = .returned (nb (totF l)) ∧ Below w.heap.size w w' := by
  unfold totF
  generalize hG : totGo 0 l = G
  replace hG := hide hG
  obtain ⟨n, hn⟩ : ∃ n, Hid (l.length = n) := ⟨_, rfl⟩
  rw [hn.out] at hl
  have hrn : Hid (Rd w A l.length 2 (ndc l)) := hr
  rw [hn.out]
  clear hr
  go_enter Try.func47, Try.ntmps47
  go_wp2_with fail
  go_loopw [4, 5] (fun s k wr => ∃ (t : Int) (i : Nat), i ≤ n ∧ 0 ≤ t ∧ t ≤ 72057594037927935 ∧ s = .int .i64 t ∧ k = .int .i64 i ∧ Hid (totGo t (l.drop i) = G) ∧ Below w.heap.size w wr) (fun _ k _ => n - (intOf k).toNat)
  case atStart => exact ⟨0, 0, by omega, by omega, by omega, rfl, rfl, by show _ = _; rw [List.drop_zero, hG.out], Below.refl _ _⟩
  case round =>
    obtain ⟨t, i, hi, ht0, ht1, rfl, rfl, hgo, hbel⟩ := hrel
    by_cases hlt : i < n
    · have hdum := trivial
      have hil : i < l.length := by rw [hn.out]; exact hlt
      obtain ⟨b, off, rfl, hb, c0, c1⟩ := rd_at (hrn.out.of_below (Nat.le_refl _) hbel) hil
      have hw := hwf l[i] (List.getElem_mem hil)
      rw [List.drop_eq_getElem_cons hil] at hgo
      generalize l[i] = p at *
      obtain ⟨x, y⟩ := p
      simp only at c0 c1 hw
      obtain ⟨hx0, hx1, hy0, hy1⟩ := hw
      by_cases hy : 0 ≤ y
      · by_cases hb2 : y ≤ 72057594037927935 - t
        · have hgo2 : Hid (totGo (t + y) (l.drop (i + 1)) = G) := by rw [← hgo.out, tot_on (by simp only; omega)]; rfl
          have hle : t + y ≤ 72057594037927935 := by omega
          have hge : 0 ≤ t + y := by omega
          go_wp2_with fail
          try (go_quiet (fail); go_wp2_with fail)
          go_roundw
          case rel => exact ⟨t + y, i + 1, by omega, hge, hle, rfl, by go_num, hgo2, by first | exact hbel | exact below_drewN hbel _⟩
          case measure => simp [intOf]; omega
        · have hres : Hid ((0, false) = G) := by rw [← hgo.out, tot_bad (by simp only; omega)]; rfl
          go_wp2_with fail
          try (go_quiet (fail); go_wp2_with fail)
          go_ret2
          exact ⟨by rw [← hres.out]; rfl, by first | exact hbel | exact below_drewN hbel _⟩
      · have hres : Hid ((0, false) = G) := by rw [← hgo.out, tot_bad (by simp only; omega)]; rfl
        go_wp2_with fail
        try (go_quiet (fail); go_wp2_with fail)
        go_ret2
        exact ⟨by rw [← hres.out]; rfl, by first | exact hbel | exact below_drewN hbel _⟩
    · have hres : Hid ((t, true) = G) := by rw [← hgo.out, List.drop_of_length_le (by rw [hn.out]; omega)]; rfl
      go_wp2_with fail
      go_ret2
      exact ⟨by rw [← hres.out]; rfl, hbel⟩

theorem right_nil (L last : Int) : rightGo L last [] = true := rfl
theorem right_bad {L last : Int} {p : Nd} {l : List Nd} (h : p.1 ≤ last ∨ rightB L p.1 = false ∨ p.2 < 1) : rightGo L last (p :: l) = false := if_pos h
theorem right_on {L last : Int} {p : Nd} {l : List Nd} (h : ¬ (p.1 ≤ last ∨ rightB L p.1 = false ∨ p.2 < 1)) : rightGo L last (p :: l) = rightGo L p.1 l := if_neg h
theorem uni_right (L : Int) : rightB L 1 = uniB L := by
  unfold rightB uniB
  congr 1
  have := pw_pos L
  simp
  intro h1 h2
  omega

set_option maxRecDepth 100000 in
set_option maxHeartbeats 1000000 in
theorem roll_right (L : Int) (A : Option Addr) (c : Nat) (l : List Nd) (w : World) (hr : Rd w A l.length 2 (ndc l)) (hl : l.length ≤ 1000000) (hwf : NdWf l) :
    Calls Try.prog 48 #[.int .i64 L, .slice A l.length c] w fun e w' => e = .returned (.bool (rollB L l)) ∧ Below w.heap.size w w' := by
  unfold rollB
  generalize hG : rightGo L 0 l = G
  replace hG := hide hG
  have hT := fun (W : World) (h : Rd W A l.length 2 (ndc l)) => roll_total A c l W h hl hwf
  have hU := fun W => right_c L 1 W
  rw [uni_right] at hU
  generalize totF l = tt at hT ⊢
  obtain ⟨tn, tb⟩ := tt
  generalize uniB L = U at hU ⊢
  replace hU := hide hU
  obtain ⟨n, hn⟩ : ∃ n, Hid (l.length = n) := ⟨_, rfl⟩
  rw [hn.out] at hl
  have hrn : Hid (Rd w A l.length 2 (ndc l)) := hr
  rw [hn.out] at hT ⊢
  replace hT := hide hT
  have hrT : Hid (Rd w A n 2 (ndc l)) := by have := hr; rwa [hn.out] at this
  clear hr
  go_enter Try.func48, Try.ntmps48
  go_wp2_with fail
  go_loopw [5, 12] (fun s k wr => ∃ (last : Int) (i : Nat), i ≤ n ∧ s = .int .i64 last ∧ k = .int .i64 i ∧ Hid (rightGo L last (l.drop i) = G) ∧ Below w.heap.size w wr) (fun _ k _ => n - (intOf k).toNat)
  case atStart => exact ⟨0, 0, by omega, rfl, rfl, by show _ = _; rw [List.drop_zero, hG.out], Below.refl _ _⟩
  case round =>
    obtain ⟨last, i, hi, rfl, rfl, hgo, hbel⟩ := hrel
    by_cases hlt : i < n
    · have hdum := trivial
      have hil : i < l.length := by rw [hn.out]; exact hlt
      obtain ⟨b, off, rfl, hb, c0, c1⟩ := rd_at (hrn.out.of_below (Nat.le_refl _) hbel) hil
      have hw := hwf l[i] (List.getElem_mem hil)
      rw [List.drop_eq_getElem_cons hil] at hgo
      generalize l[i] = p at *
      obtain ⟨x, y⟩ := p
      simp only at c0 c1 hw
      obtain ⟨hx0, hx1, hy0, hy1⟩ := hw
      have hR := fun W => right_c L x W
      by_cases hxl : x ≤ last
      · have hres : Hid (false = G) := by rw [← hgo.out, right_bad (.inl hxl)]; rfl
        replace hR := hide hR
        go_wp2_with fail
        go_ret
        exact ⟨by rw [← hres.out]; rfl, balloc hbel _⟩
      · cases hrb : rightB L x
        · have hres : Hid (false = G) := by rw [← hgo.out, right_bad (.inr (.inl hrb))]; rfl
          rw [hrb] at hR
          replace hR := hide hR
          clear hrb
          go_wp2_with (go_at_call 27; refine (hR.out _).mono ?_; rintro e w1 ⟨rfl, rfl⟩)
          go_ret
          exact ⟨by rw [← hres.out]; rfl, balloc hbel _⟩
        · rw [hrb] at hR
          replace hR := hide hR
          by_cases hy : y < 1
          · have hres : Hid (false = G) := by rw [← hgo.out, right_bad (.inr (.inr hy))]; rfl
            clear hrb
            go_wp2_with (go_at_call 27; refine (hR.out _).mono ?_; rintro e w1 ⟨rfl, rfl⟩)
            go_ret
            exact ⟨by rw [← hres.out]; rfl, balloc hbel _⟩
          · have hgo2 : Hid (rightGo L x (l.drop (i + 1)) = G) := by rw [← hgo.out, right_on (not_or.2 ⟨hxl, not_or.2 ⟨by rw [hrb]; simp, hy⟩⟩)]; rfl
            clear hrb
            go_wp2_with (go_at_call 27; refine (hR.out _).mono ?_; rintro e w1 ⟨rfl, rfl⟩)
            go_roundw
            case rel => exact ⟨x, i + 1, by omega, rfl, by go_num, hgo2, balloc hbel _⟩
            case measure => simp [intOf]; omega
    · have hres : Hid (true = G) := by rw [← hgo.out, List.drop_of_length_le (by rw [hn.out]; omega)]; rfl
      go_wp2_with fail
      refine (hT.out _ (hrT.out.of_below (Nat.le_refl _) hbel)).mono ?_
      rintro e w1 ⟨rfl, hb1⟩
      cases tb
      · go_wp2_with fail
        go_ret
        exact ⟨by rw [← hres.out]; rfl, bthen hbel hb1⟩
      · go_wp2_with fail
        refine (hU.out _).mono ?_
        rintro e w2 ⟨rfl, rfl⟩
        go_wp2_with fail
        go_ret
        exact ⟨by rw [← hres.out]; simp, bthen hbel hb1⟩

theorem find_at {id : Int} {p : Nd} {l : List Nd} (h : p.1 = id) : findF id (p :: l) = p.2 := if_pos h
theorem find_on {id : Int} {p : Nd} {l : List Nd} (h : ¬ p.1 = id) : findF id (p :: l) = findF id l := if_neg h
set_option maxRecDepth 100000 in
theorem ref06_find (id : Int) (A : Option Addr) (c : Nat) (l : List Nd) (w : World) (hr : Rd w A l.length 2 (ndc l)) (hl : l.length ≤ 1000000) (hwf : NdWf l) :
    Calls Try.prog 51 #[.slice A l.length c, .int .i64 id] w fun e w' => e = .returned (.int .i64 (findF id l)) ∧ Below w.heap.size w w' := by
  generalize hG : findF id l = G
  replace hG := hide hG
  obtain ⟨n, hn⟩ : ∃ n, Hid (l.length = n) := ⟨_, rfl⟩
  rw [hn.out] at hl
  have hrn : Hid (Rd w A l.length 2 (ndc l)) := hr
  rw [hn.out]
  clear hr
  go_enter Try.func51, Try.ntmps51
  go_wp2_with fail
  go_loopw [5] (fun k wr => ∃ (i : Nat), i ≤ n ∧ k = .int .i64 i ∧ Hid (findF id (l.drop i) = G) ∧ Below w.heap.size w wr) (fun k _ => n - (intOf k).toNat)
  case atStart => exact ⟨0, by omega, rfl, by show _ = _; rw [List.drop_zero, hG.out], Below.refl _ _⟩
  case round =>
    obtain ⟨i, hi, rfl, hgo, hbel⟩ := hrel
    by_cases hlt : i < n
    · have hdum := trivial
      have hil : i < l.length := by rw [hn.out]; exact hlt
      obtain ⟨b, off, rfl, hb, c0, c1⟩ := rd_at (hrn.out.of_below (Nat.le_refl _) hbel) hil
      have hw := hwf l[i] (List.getElem_mem hil)
      rw [List.drop_eq_getElem_cons hil] at hgo
      generalize l[i] = p at *
      obtain ⟨x, y⟩ := p
      simp only at c0 c1 hw
      obtain ⟨hx0, hx1, hy0, hy1⟩ := hw
      by_cases hx : x = id
      · subst hx
        have hres : Hid (y = G) := by rw [← hgo.out, find_at (id := x) (p := (x, y)) rfl]; rfl
        go_wp2_with fail
        go_ret
        exact ⟨by rw [← hres.out]; rfl, hbel⟩
      · have hgo2 : Hid (findF id (l.drop (i + 1)) = G) := by rw [← hgo.out, find_on hx]; rfl
        have hx2 : (x == id) = false := by simpa using hx
        clear hx
        go_wp2_with fail
        go_roundw
        case rel => exact ⟨i + 1, by omega, by go_num, hgo2, hbel⟩
        case measure => simp [intOf]; omega
    · have hres : Hid (0 = G) := by rw [← hgo.out, List.drop_of_length_le (by rw [hn.out]; omega)]; rfl
      go_wp2_with fail
      go_ret
      exact ⟨by rw [← hres.out]; rfl, hbel⟩
end Go.Proofs.Ytbfecpomlkapdaa

/- The reference's text of a set, walked. By the prover of this repo. -/
import Derived.Test.YtlnbglpddpgooaaDoorRefM
namespace Go.Proofs.YtlnbglpddpgooaaDoor
open Go.RowKit

theorem intL_length2 (l : List Nat) : (intL l).length = l.length := by unfold intL; rw [List.length_map]
theorem intL_at (l : List Nat) (k : Nat) (h : k < (intL l).length) : (intL l)[k] = ((l.getD k 0 : Nat) : Int) := by
  have h' : k < l.length := by rw [intL_length2] at h; exact h
  have e : (intL l)[k] = ((l[k] : Nat) : Int) := List.getElem_map _
  rw [e, List.getD_eq_getElem?_getD, List.getElem?_eq_getElem h']; rfl
theorem not_empty {S : ByteArray} (h : ¬ S = ⟨#[]⟩) : S.toList.isEmpty = false := by
  rw [ByteArray.toList_eq, List.isEmpty_eq_false_iff]
  intro e
  exact h (str_ext (by rw [e]))
/-- What a span's row makes of the text. -/
theorem jn_on {s i k : Nat} (hm : Mid s i k) (he : endF (s : Int) (((bitsL s).getD i 0 : Nat) : Int) = (((bitsL s).getD k 0 : Nat) : Int)) :
    jn (rowsT s (k + 1)) = (fun t : ByteArray => if i < k then (t ++ ⟨#[45]⟩) ++ digS (((bitsL s).getD k 0 : Nat) : Int) else t) ((if jn (rowsT s i) = ⟨#[]⟩ then jn (rowsT s i) else jn (rowsT s i) ++ ⟨#[44]⟩) ++ digS (((bitsL s).getD i 0 : Nat) : Int)) := by
  obtain ⟨h1, h2, _, h4⟩ := hm
  have hrow : rowF (s : Int) ((bitsL s).getD i 0) = if i < k then digS (((bitsL s).getD i 0 : Nat) : Int) ++ (⟨#[45]⟩ ++ digS (((bitsL s).getD k 0 : Nat) : Int)) else digS (((bitsL s).getD i 0 : Nat) : Int) := by
    unfold rowF
    rw [he]
    by_cases h : i < k
    · have := bits_up h h2
      rw [if_pos h, if_pos (by omega)]
    · rw [if_neg h, if_neg]
      have : k = i := by omega
      subst this; omega
  have hne : (⟨#[]⟩ : ByteArray) ++ rowF (s : Int) ((bitsL s).getD i 0) = rowF (s : Int) ((bitsL s).getD i 0) := by apply str_ext; simp [ByteArray.data_append]
  rw [h4]
  by_cases hz : rowsT s i = []
  · rw [hz, List.nil_append, jn_one, hrow]
    simp only [jn_nil, if_true]
    split
    · apply str_ext; simp [ByteArray.data_append]
    · apply str_ext; simp [ByteArray.data_append]
  · rw [jn_snoc _ _ hz, hrow]
    simp only [if_neg (fun h => hz ((jn_empty s i).1 h))]
    split
    · apply str_ext; simp [ByteArray.data_append]
    · rfl
set_option maxRecDepth 100000 in
set_option maxHeartbeats 1000000 in
theorem ref27_text (s : Nat) (hs : s < 18446744073709551616) (w : World) :
    Calls Tryd.prog 26 #[.int .u64 s] w fun e w' => e = .returned (.tuple #[.string (textF s).1, .bool (textF s).2]) ∧ Below w.heap.size w w' := by
  have hR := hide (fun W => ref27_right (s : Int) W)
  by_cases h48 : s < 281474976710656
  · have hd : decide ((s : Int) < 281474976710656) = true := decide_eq_true (by omega)
    rw [hd] at hR
    have hL := hide (ref27_list s hs w)
    obtain ⟨T, hT⟩ : ∃ T, Hid (textF s = T) := ⟨_, rfl⟩
    rw [hT.out]
    have hlen := intL_length2 (bitsL s)
    obtain ⟨n, hn⟩ : ∃ n, Hid ((bitsL s).length = n) := ⟨_, rfl⟩
    have hn48 := bitsL_length s
    rw [hn.out] at hlen hn48
    have hcap := hide (fun k (hk : k < (bitsL s).length) => bit_at hk)
    rw [hn.out] at hcap
    go_enter Tryd.func26, Tryd.ntmps26
    go_wp2_with (go_at_call 21; refine (hR.out _).mono ?_; rintro e w1 ⟨rfl, rfl⟩)
    refine hL.out.mono ?_
    rintro e w2 ⟨v, rfl, ⟨A, c, rfl, _, _, _, hrd⟩, hb2⟩
    rw [hlen]
    replace hrd := hide hrd
    replace hb2 := hide hb2
    by_cases h0 : n = 0
    · subst h0
      have hres : Hid ((⟨#[45]⟩, true) = T) := by show _ = _; rw [← hT.out, textF_none h48 hn.out]
      clear hT
      go_wp2_with fail
      go_ret2
      exact ⟨by rw [← hres.out]; rfl, hb2.out⟩
    · have hres : Hid ((jn (rowsT s n), true) = T) := by show _ = _; rw [← hT.out, textF_ref h48 (by rw [hn.out]; exact h0), hn.out]
      have hne : ((n : Int) == 0) = false := by simp; omega
      replace hlen := hide hlen
      clear hT hd
      go_wp2_with fail
      go_loopw [5, 6] (fun t i wr => ∃ k : Nat, i = .int .i64 k ∧ Hid (Head s k) ∧ k ≤ n ∧ t = .string (jn (rowsT s k)) ∧ Below w2.heap.size w2 wr) (fun _ i _ => n - (intOf i).toNat)
      case atStart => exact ⟨0, rfl, head_zero s, Nat.zero_le _, rfl, Below.refl _ _⟩
      case round =>
        obtain ⟨i, rfl, hhd, hi, rfl, hbel⟩ := hrel
        obtain ⟨w3, hw3⟩ : ∃ w3, w3 = wr := ⟨_, rfl⟩
        subst hw3
        by_cases hlt : i < n
        · have hmid := hide (mid_start hhd.out (by rw [hn.out]; exact hlt))
          have hrw := hide (hrd.out.of_below (Nat.le_refl _) hbel)
          obtain ⟨b, off, hA, hb, hc⟩ := it_at hrw.out (k := 0) (by rw [hlen.out]; omega)
          subst hA
          have hcell : Hid (∀ k, k < n → w3.cell? ⟨b, off + k, none⟩ = some (.int .i64 (((bitsL s).getD k 0 : Nat) : Int))) := fun k hk => by
            obtain ⟨b', off', hA', _, hc'⟩ := it_at hrw.out (k := k) (by rw [hlen.out]; exact hk)
            obtain ⟨rfl, rfl⟩ : b = b' ∧ off = off' := by cases hA'; exact ⟨rfl, rfl⟩
            rw [hc', intL_at]
          clear hc
          have hbel := hide hbel
          have hcellb := hide (fun (k : Nat) (hk : k < n) (W : World) (hW : Below w3.heap.size w3 W) => (hW.cell (p := ⟨b, off + k, none⟩) hb).trans (hcell.out k hk))
          have hS := rowsT_size (s := s) (i := i)
          have hon := hide (fun k (hm : Mid s i k) he => jn_on hm he)
          have hwz := Nat.le_refl w3.heap.size
          generalize jn (rowsT s i) = S at hS hon ⊢
          have hai := hcap.out i hlt
          clear hcell hrd hb2
          go_wp2_with fail
          go_loopw [7] (fun kv wq => ∃ k : Nat, kv = .int .i64 k ∧ i ≤ k ∧ k < n ∧ Hid (Mid s i k) ∧ Below w3.heap.size w3 wq) (fun kv _ => n - (intOf kv).toNat)
          case atStart => exact ⟨i, rfl, Nat.le_refl _, hlt, hmid, Below.refl _ _⟩
          case round =>
            obtain ⟨k, rfl, hik, hk, hmd, hbq⟩ := hrel
            have hck := hcellb.out k hk wr hbq
            have hwq := hbq.size
            have hbw : b < wr.heap.size := by omega
            have hak := hcap.out k hk
            have hfin := hide (fun h => mid_end hmd.out h)
            rw [hn.out] at hfin
            obtain ⟨ak, hgk⟩ : ∃ ak, Hid ((bitsL s).getD k 0 = ak) := ⟨_, rfl⟩
            rw [hgk.out] at hak hck
            by_cases hk1 : k + 1 < n
            · have hck1 := hcellb.out (k + 1) hk1 wr hbq
              have hak1 := hcap.out (k + 1) hk1
              obtain ⟨al, hgl⟩ : ∃ al, Hid ((bitsL s).getD (k + 1) 0 = al) := ⟨_, rfl⟩
              rw [hgl.out] at hak1 hck1
              by_cases he : al = ak + 1
              · have hmd2 := hide (mid_step hmd.out (by rw [hn.out]; exact hk1) (by rw [hgl.out, hgk.out]; exact he))
                have heq : ((al : Int) == (ak : Int) + 1) = true := by simp; omega
                have hbq := hide hbq
                clear hfin he
                go_wp2_with fail
                refine wp_region_later (by kernel_rfl) (by kernel_rfl) ?_
                have hkn : (k : Int) + 1 < n := by omega
                repeat (first
                  | go_big_quiet_step (first | exact rfl)
                  | rw [decide_eq_true hkn])
                refine wpQuiet_nil ?_
                rintro _ ⟨e4, rfl⟩
                have hb4 := hide (hbq.out.trans (e4.property.mono hwq))
                generalize e4.val = w4 at hb4 ⊢
                go_wp2_with fail
                go_roundw
                case rel => exact ⟨k + 1, by go_num, by omega, hk1, hmd2, hb4.out⟩
                case measure => simp [intOf]; omega
              · have hne2 : ((al : Int) == (ak : Int) + 1) = false := by simp; omega
                have hfin := hide (hfin.out (fun _ => by rw [hgl.out, hgk.out]; exact he))
                have hbq := hide hbq
                clear he
                go_wp2_with fail
                refine wp_region_later (by kernel_rfl) (by kernel_rfl) ?_
                have hkn : (k : Int) + 1 < n := by omega
                repeat (first
                  | go_big_quiet_step (first | exact rfl)
                  | rw [decide_eq_true hkn])
                refine wpQuiet_nil ?_
                rintro _ ⟨e4, rfl⟩
                have hb4 := hide (hbq.out.trans (e4.property.mono hwq))
                generalize e4.val = w4 at hb4 ⊢
                have hJ := hide (hon.out k hmd.out hfin.out.2)
                obtain ⟨ai, hgi2⟩ : ∃ ai, Hid ((bitsL s).getD i 0 = ai) := ⟨_, rfl⟩
                have hci4 := hide (fun (W : World) (hW : Below w3.heap.size w3 W) => hcellb.out i hlt W hW)
                have hck4 := hide (fun (W : World) (hW : Below w3.heap.size w3 W) => hcellb.out k hk W hW)
                rw [hgi2.out] at hai hci4 hJ
                rw [hgk.out] at hck4 hJ
                have hz4 := hb4.out.size
                have hbw4 : b < w4.heap.size := by omega
                have hD1 := hide (fun W => ref25_digits (ai : Int) W (by omega))
                have hD2 := hide (fun W => ref25_digits (ak : Int) W (by omega))
                have hd1 := digS_size (ai : Int) (by omega)
                have hd2 := digS_size (ak : Int) (by omega)
                generalize digS (ai : Int) = d1 at *
                generalize digS (ak : Int) = d2 at *
                have hci5 := hci4.out w4 hb4.out
                have hck5 := hck4.out w4 hb4.out
                have hJ := hide hJ.out
                by_cases hSe : S = ⟨#[]⟩
                case' pos =>
                  subst hSe
                  rw [if_pos rfl] at hJ
                  have e1 : (⟨#[]⟩ : ByteArray).size + d1.size ≤ 9223372036854775807 := by show 0 + _ ≤ _; omega
                  have e2 : ((⟨#[]⟩ : ByteArray) ++ d1).size + (⟨#[45]⟩ : ByteArray).size ≤ 9223372036854775807 := by rw [ByteArray.size_append]; show 0 + _ + 1 ≤ _; omega
                  have e3 : ((⟨#[]⟩ : ByteArray) ++ d1 ++ (⟨#[45]⟩ : ByteArray)).size + d2.size ≤ 9223372036854775807 := by rw [ByteArray.size_append, ByteArray.size_append]; show 0 + _ + 1 + _ ≤ _; omega
                case' neg =>
                  rw [if_neg hSe] at hJ
                  have hs1 := str_ne hSe
                  have hs2 := not_empty hSe
                  clear hSe
                  have e0 : S.size + (⟨#[44]⟩ : ByteArray).size ≤ 9223372036854775807 := by show _ + 1 ≤ _; omega
                  have e1 : (S ++ (⟨#[44]⟩ : ByteArray)).size + d1.size ≤ 9223372036854775807 := by rw [ByteArray.size_append]; show _ + 1 + _ ≤ _; omega
                  have e2 : (S ++ (⟨#[44]⟩ : ByteArray) ++ d1).size + (⟨#[45]⟩ : ByteArray).size ≤ 9223372036854775807 := by rw [ByteArray.size_append, ByteArray.size_append]; show _ + 1 + _ + 1 ≤ _; omega
                  have e3 : (S ++ (⟨#[44]⟩ : ByteArray) ++ d1 ++ (⟨#[45]⟩ : ByteArray)).size + d2.size ≤ 9223372036854775807 := by rw [ByteArray.size_append, ByteArray.size_append, ByteArray.size_append]; show _ + 1 + _ + 1 + _ ≤ _; omega
                all_goals
                  by_cases hik2 : i < k
                  case' pos =>
                    rw [if_pos hik2] at hJ
                    go_wp2_with fail
                    refine Calls.mono (hD1.out w4) ?_
                    rintro e w5 ⟨rfl, hb5⟩
                    have hck6 := hck4.out w5 (hb4.out.trans (hb5.mono hz4))
                    have hbw5 : b < w5.heap.size := by have := hb5.size; omega
                    replace hb5 := hide (hb4.out.trans (hb5.mono hz4))
                    go_wp2_with fail
                    refine Calls.mono (hD2.out w5) ?_
                    rintro e w6 ⟨rfl, hb6⟩
                    replace hb6 := hide (hb5.out.trans (hb6.mono hb5.out.size))
                    go_wp2_with fail
                    go_roundw
                    case' rel => exact ⟨k + 1, by go_num, hfin.out.1, by omega, by rw [hJ.out]; try simp [hik2], hbel.out.trans (hb6.out.mono hbel.out.size)⟩
                    case' measure => simp [intOf]; omega
                  case' neg =>
                    rw [if_neg hik2] at hJ
                    obtain rfl : i = k := by omega
                    go_wp2_with fail
                    refine Calls.mono (hD1.out w4) ?_
                    rintro e w5 ⟨rfl, hb5⟩
                    replace hb5 := hide (hb4.out.trans (hb5.mono hz4))
                    go_wp2_with fail
                    go_roundw
                    case' rel => exact ⟨i + 1, by go_num, hfin.out.1, by omega, by rw [hJ.out]; try simp [hik2], hbel.out.trans (hb5.out.mono hbel.out.size)⟩
                    case' measure => simp [intOf]; omega
            · have hfin := hide (hfin.out (fun h => absurd h hk1))
              have hbq := hide hbq
              go_wp2_with fail
              refine wp_region_later (by kernel_rfl) (by kernel_rfl) ?_
              have hkn : ¬ (k : Int) + 1 < n := by omega
              repeat (first
                | go_big_quiet_step (first | exact rfl | exact congrArg Value.bool (decide_eq_false hkn))
                | rw [decide_eq_false hkn])
              refine wpQuiet_nil ?_
              rintro _ ⟨e4, rfl⟩
              have hb4 := hide (hbq.out.trans (e4.property.mono hwq))
              generalize e4.val = w4 at hb4 ⊢
              have hJ := hide (hon.out k hmd.out hfin.out.2)
              obtain ⟨ai, hgi2⟩ : ∃ ai, Hid ((bitsL s).getD i 0 = ai) := ⟨_, rfl⟩
              have hci4 := hide (fun (W : World) (hW : Below w3.heap.size w3 W) => hcellb.out i hlt W hW)
              have hck4 := hide (fun (W : World) (hW : Below w3.heap.size w3 W) => hcellb.out k hk W hW)
              rw [hgi2.out] at hai hci4 hJ
              rw [hgk.out] at hck4 hJ
              have hz4 := hb4.out.size
              have hbw4 : b < w4.heap.size := by omega
              have hD1 := hide (fun W => ref25_digits (ai : Int) W (by omega))
              have hD2 := hide (fun W => ref25_digits (ak : Int) W (by omega))
              have hd1 := digS_size (ai : Int) (by omega)
              have hd2 := digS_size (ak : Int) (by omega)
              generalize digS (ai : Int) = d1 at *
              generalize digS (ak : Int) = d2 at *
              have hci5 := hci4.out w4 hb4.out
              have hck5 := hck4.out w4 hb4.out
              have hJ := hide hJ.out
              by_cases hSe : S = ⟨#[]⟩
              case' pos =>
                subst hSe
                rw [if_pos rfl] at hJ
                have e1 : (⟨#[]⟩ : ByteArray).size + d1.size ≤ 9223372036854775807 := by show 0 + _ ≤ _; omega
                have e2 : ((⟨#[]⟩ : ByteArray) ++ d1).size + (⟨#[45]⟩ : ByteArray).size ≤ 9223372036854775807 := by rw [ByteArray.size_append]; show 0 + _ + 1 ≤ _; omega
                have e3 : ((⟨#[]⟩ : ByteArray) ++ d1 ++ (⟨#[45]⟩ : ByteArray)).size + d2.size ≤ 9223372036854775807 := by rw [ByteArray.size_append, ByteArray.size_append]; show 0 + _ + 1 + _ ≤ _; omega
              case' neg =>
                rw [if_neg hSe] at hJ
                have hs1 := str_ne hSe
                have hs2 := not_empty hSe
                clear hSe
                have e0 : S.size + (⟨#[44]⟩ : ByteArray).size ≤ 9223372036854775807 := by show _ + 1 ≤ _; omega
                have e1 : (S ++ (⟨#[44]⟩ : ByteArray)).size + d1.size ≤ 9223372036854775807 := by rw [ByteArray.size_append]; show _ + 1 + _ ≤ _; omega
                have e2 : (S ++ (⟨#[44]⟩ : ByteArray) ++ d1).size + (⟨#[45]⟩ : ByteArray).size ≤ 9223372036854775807 := by rw [ByteArray.size_append, ByteArray.size_append]; show _ + 1 + _ + 1 ≤ _; omega
                have e3 : (S ++ (⟨#[44]⟩ : ByteArray) ++ d1 ++ (⟨#[45]⟩ : ByteArray)).size + d2.size ≤ 9223372036854775807 := by rw [ByteArray.size_append, ByteArray.size_append, ByteArray.size_append]; show _ + 1 + _ + 1 + _ ≤ _; omega
              all_goals
                by_cases hik2 : i < k
                case' pos =>
                  rw [if_pos hik2] at hJ
                  go_wp2_with fail
                  refine Calls.mono (hD1.out w4) ?_
                  rintro e w5 ⟨rfl, hb5⟩
                  have hck6 := hck4.out w5 (hb4.out.trans (hb5.mono hz4))
                  have hbw5 : b < w5.heap.size := by have := hb5.size; omega
                  replace hb5 := hide (hb4.out.trans (hb5.mono hz4))
                  go_wp2_with fail
                  refine Calls.mono (hD2.out w5) ?_
                  rintro e w6 ⟨rfl, hb6⟩
                  replace hb6 := hide (hb5.out.trans (hb6.mono hb5.out.size))
                  go_wp2_with fail
                  go_roundw
                  case' rel => exact ⟨k + 1, by go_num, hfin.out.1, by omega, by rw [hJ.out]; try simp [hik2], hbel.out.trans (hb6.out.mono hbel.out.size)⟩
                  case' measure => simp [intOf]; omega
                case' neg =>
                  rw [if_neg hik2] at hJ
                  obtain rfl : i = k := by omega
                  go_wp2_with fail
                  refine Calls.mono (hD1.out w4) ?_
                  rintro e w5 ⟨rfl, hb5⟩
                  replace hb5 := hide (hb4.out.trans (hb5.mono hz4))
                  go_wp2_with fail
                  go_roundw
                  case' rel => exact ⟨i + 1, by go_num, hfin.out.1, by omega, by rw [hJ.out]; try simp [hik2], hbel.out.trans (hb5.out.mono hbel.out.size)⟩
                  case' measure => simp [intOf]; omega
        · obtain rfl : i = n := by omega
          generalize jn (rowsT s i) = S at *
          have hbel := hide hbel
          go_wp2_with fail
          go_ret2
          exact ⟨by rw [← hres.out]; rfl, bthen hb2.out hbel.out⟩
  · have hd : decide ((s : Int) < 281474976710656) = false := decide_eq_false (by omega)
    rw [hd] at hR
    rw [textF_big h48]
    go_enter Tryd.func26, Tryd.ntmps26
    go_wp2_with (go_at_call 21; refine (hR.out _).mono ?_; rintro e w1 ⟨rfl, rfl⟩)
    go_ret2
    exact ⟨rfl, Below.refl _ _⟩
end Go.Proofs.YtlnbglpddpgooaaDoor

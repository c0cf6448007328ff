/- The walk of the law SealTells, on. By the prover of this repo. -/
import Derived.Test.YtclndbaafibaiaaSealT
namespace Go.Proofs.Ytclndbaafibaiaa
open Go.RowKit
open SealM

theorem u8_of (d : Int) (h0 : 0 ≤ d) (h1 : d ≤ 255) (c : UInt8) : (((c ^^^ UInt8.ofNat d.toNat).toNat : Nat) : Int) = bits .xor .u8 (c.toNat : Int) d := by
  have hc := byte_lt c
  rw [u8_xor _ _ hc.1 (by omega) h0 (by omega), UInt8.toNat_xor, UInt8.toNat_ofNat', Nat.mod_eq_of_lt (by omega), Int.toNat_natCast]
theorem xor_ne (c e : UInt8) (h : e ≠ 0) : c ^^^ e ≠ c := by
  intro k
  apply h
  have : c ^^^ (c ^^^ e) = c ^^^ c := by rw [k]
  rwa [← UInt8.xor_assoc, UInt8.xor_self, UInt8.zero_xor] at this

set_option maxHeartbeats 1600000 in
theorem sealTells_walk (s : ByteArray) (at_ d : Int) (w : World) (_hs : s.size ≤ maxLen) (ha : -9223372036854775808 ≤ at_ ∧ at_ ≤ 9223372036854775807) (hd : 0 ≤ d ∧ d ≤ 255) :
    Calls Try.prog 6 #[.string s, .int .i64 at_, .int .u8 d] w fun e w' => e = .returned (.bool true) ∧ Below w.heap.size w w' := by
  by_cases hg : 2000 < s.size
  · go_enter Try.func6, Try.ntmps6
    go_wp2_with fail
    refine (alive23 _).mono ?_
    rintro e w1 ⟨rfl, hb1⟩
    go_wp2_with fail
    go_ret
    exact ⟨rfl, hb1⟩
  obtain ⟨t, ht⟩ : ∃ t, t = sealed s := ⟨_, rfl⟩
  have hT := hide ht
  have hts : t.size = s.size + 4 := by rw [ht, sealed_size]
  have hto : Hid (openRes t = (s, 0)) := by show _ = _; rw [ht, open_sealed]
  have htl : Hid (t.data.toList = sealL s.data.toList) := by show _ = _; rw [ht, sealed_list]
  clear ht
  have hcv := fun w => run_bytes_of_string (P := Try.prog) w 9 41 5 t Try.underlying9 Try.underlying41 Try.underlying5
  have HCV := hide hcv
  clear hcv
  obtain ⟨ha0, ha1⟩ := ha
  obtain ⟨hd0, hd1⟩ := hd
  by_cases hin : 0 ≤ at_ ∧ at_ < s.size + 4
  · obtain ⟨hi0, hi1⟩ := hin
    obtain ⟨i, rfl⟩ := Int.eq_ofNat_of_zero_le hi0
    have hi : i < t.size := by omega
    go_enter Try.func6, Try.ntmps6
    go_wp2_with fail
    refine (seal_seal s _ (by omega)).mono ?_
    rw [← hT.out]
    rintro e w1 ⟨rfl, hb1⟩
    go_wp2_with fail
    refine (seal_open t _ (by unfold maxLen; omega)).mono ?_
    rw [hto.out]
    rintro e w2 ⟨rfl, hb2⟩
    have hb2' := bthen hb1 hb2
    clear hb1 hb2
    go_upto_region 9 with (fail)
    have hcv := HCV.out w2
    go_cut [10] from 51 to 52 (fun b wc => ∃ g cap : Nat, b = .slice (some ⟨g, 0, none⟩) (s.size + 4) cap ∧ w.heap.size ≤ g ∧ Bts wc g t.data.toList ∧ Below w.heap.size w wc)
    case first =>
      go_wp2_with fail
      go_meet
      case rel =>
        refine ⟨w2.heap.size, _, rfl, hb2'.size, ?_, balloc hb2'.drew _⟩
        have h := Bts.made w2 t (grownCap w2 t.size 0 5) 5
        simp only [hts] at h
        exact h
    case rest =>
      obtain ⟨g, cap, rfl, hg0, hbts, hbel⟩ := hcut
      clear hcv
      have hl : t.data.toList.length = s.size + 4 := by rw [length_data, hts]
      obtain ⟨c0, f0⟩ := hbts.2 i (by omega)
      have hci : Hid ((sealL s.data.toList)[i]? = some (t.data.toList[i]'(by omega))) := by
        show _ = _
        rw [← htl.out]
        exact List.getElem?_eq_getElem (by omega)
      generalize t.data.toList[i]'(by omega) = c at *
      have hc0 := byte_lt c
      have hu8 := hide (u8_of d hd0 hd1 c)
      have hL := hide hl
      clear hl
      go_upto_region 10 with (fail)
      go_cut [] from 53 to 59 (fun w3 => Bts w3 g (t.data.toList.set i (c ^^^ UInt8.ofNat d.toNat)) ∧ Below w.heap.size w w3)
      case first =>
        go_wp2_with fail
        go_meet
        case rel =>
          have h := hbts.set i (c ^^^ UInt8.ofNat d.toNat)
          rw [hu8.out] at h
          exact ⟨h, hbel.setCell hg0 _⟩
      case rest =>
        obtain ⟨hb3, hbel3⟩ := hcut
        have hback := hb3.back (P := Try.prog) (n := s.size + 4) (cap := cap) (by rw [List.length_set]; exact hL.out) 41 9 5 Try.underlying41 Try.underlying5 Try.underlying9
        obtain ⟨x, hx⟩ : ∃ x : ByteArray, x = ⟨(t.data.toList.set i (c ^^^ UInt8.ofNat d.toNat)).toArray⟩ := ⟨_, rfl⟩
        rw [← hx] at hback
        have hxl : x.data.toList = t.data.toList.set i (c ^^^ UInt8.ofNat d.toNat) := by rw [hx]
        have hxs : x.size = s.size + 4 := by rw [← length_data, hxl, List.length_set]; exact hL.out
        have hXL := hide hxl
        clear hx hxl hbel c0 f0 hbts hb3
        by_cases hz : d = 0
        · have hox : Hid (openRes x = (s, 0)) := by
            show _ = _
            have e : x = t := by
              apply str_ext
              rw [hXL.out, hz]
              have e2 : c ^^^ UInt8.ofNat (0 : Int).toNat = c := by simp
              rw [e2]
              have e3 := hci.out
              rw [← htl.out] at e3
              obtain ⟨hlt, e4⟩ := List.getElem?_eq_some_iff.1 e3
              rw [← e4, List.set_getElem_self]
            rw [e]
            exact hto.out
          subst hz
          clear hu8
          go_wp2_with fail
          refine (seal_open x _ (by unfold maxLen; omega)).mono ?_
          rw [hox.out]
          rintro e w4 ⟨rfl, hb4⟩
          clear hback hxs
          have hb5 := bthen hbel3 hb4
          clear hbel3 hb4
          by_cases hnx : i + 1 < s.size
          · go_upto_region 15 with (fail)
            have hcv := HCV.out w4
            go_cut [13] from 88 to 89 (fun b wc => ∃ g cap : Nat, b = .slice (some ⟨g, 0, none⟩) (s.size + 4) cap ∧ w.heap.size ≤ g ∧ Bts wc g t.data.toList ∧ Below w.heap.size w wc)
            case first =>
              go_wp2_with fail
              go_meet
              case rel =>
                refine ⟨w4.heap.size, _, rfl, hb5.size, ?_, balloc hb5.drew _⟩
                have h := Bts.made w4 t (grownCap w4 t.size 0 5) 5
                simp only [hts] at h
                exact h
            case rest =>
              clear hcv hci hox hb5 hc0
              obtain ⟨g2, cap2, rfl, hg2, hbts, hbel⟩ := hcut
              have hl := hL.out
              have hls : s.data.toList.length = s.size := length_data s
              obtain ⟨k0, f0⟩ := hbts.2 i (by omega)
              obtain ⟨k1, f1⟩ := hbts.2 (i + 1) (by omega)
              have hj : i + 1 < t.size := by omega
              have hti : t[i]'hi = t.data.toList[i]'(by omega) := rfl
              have htj : t[i + 1]'hj = t.data.toList[i + 1]'(by omega) := rfl
              have hc1 : Hid (s.data.toList[i]? = some (t.data.toList[i]'(by omega))) := by
                show _ = _
                have e := List.getElem?_eq_getElem (l := t.data.toList) (i := i) (by omega)
                rw [← e, htl.out]
                exact (List.getElem?_append_left (by omega)).symm
              have hc2 : Hid (s.data.toList[i + 1]? = some (t.data.toList[i + 1]'(by omega))) := by
                show _ = _
                have e := List.getElem?_eq_getElem (l := t.data.toList) (i := i + 1) (by omega)
                rw [← e, htl.out]
                exact (List.getElem?_append_left (by omega)).symm
              generalize t.data.toList[i]'(by omega) = y at *
              generalize t.data.toList[i + 1]'(by omega) = z at *
              have hy0 := byte_lt y
              have hz0 := byte_lt z
              clear hl hls
              go_upto_region 16 with (fail)
              go_cut [] from 90 to 105 (fun w3 => Bts w3 g2 ((t.data.toList.set i z).set (i + 1) y) ∧ Below w.heap.size w w3)
              case first =>
                clear hti htj
                go_region
                all_goals
                  go_wp2_with fail
                  go_meet
                case rel =>
                  exact ⟨(hbts.set i z).set (i + 1) y, ((hbel.setCell hg2 _).setCell hg2 _).drew⟩
              case rest =>
                obtain ⟨hb3, hbel3⟩ := hcut
                have hback := hb3.back (P := Try.prog) (n := s.size + 4) (cap := cap2) (by rw [List.length_set, List.length_set]; exact hL.out) 41 9 5 Try.underlying41 Try.underlying5 Try.underlying9
                obtain ⟨x2, hx2⟩ : ∃ x : ByteArray, x = ⟨((t.data.toList.set i z).set (i + 1) y).toArray⟩ := ⟨_, rfl⟩
                rw [← hx2] at hback
                have hxl2 : x2.data.toList = (t.data.toList.set i z).set (i + 1) y := by rw [hx2]
                have hxs2 : x2.size = s.size + 4 := by rw [← length_data, hxl2, List.length_set, List.length_set]; exact hL.out
                have hop : OpensL x2.data.toList ↔ y = z := by
                  rw [hxl2, htl.out]
                  exact opens_swap _ _ (by have := length_data s; omega) _ _ hc1.out hc2.out
                clear hx2 hxl2 k0 k1 f0 f1 hbts hb3
                by_cases hyz : y = z
                · have hox : Hid ((openRes x2).2 = 0) := by show _ = _; rw [openRes_yes (by omega) (hop.2 hyz)]
                  have hyz2 : (((y.toNat : Nat) : Int) == ((z.toNat : Nat) : Int)) = true := by rw [hyz]; simp
                  clear hop hyz
                  go_wp2_with fail
                  refine (seal_open x2 _ (by unfold maxLen; omega)).mono ?_
                  rw [hox.out]
                  rintro e w6 ⟨rfl, hb6⟩
                  clear hback hxs2
                  go_wp2_with fail
                  refine wp_region_later (by kernel_rfl) (by kernel_rfl) ?_
                  repeat (go_big_quiet_step (first | (go_at_call 15; exact calls_later (alive23 _)) | exact rfl))
                  refine wpQuiet_nil ?_
                  rintro _ ⟨e1, rfl⟩
                  go_wp2_with fail
                  go_ret
                  exact ⟨rfl, bthen (bthen hbel3 hb6) e1.property⟩
                · have hox : Hid ((openRes x2).2 = 12) := by show _ = _; rw [openRes_no (by omega) (fun k => hyz (hop.1 k))]
                  have hyz2 : (((y.toNat : Nat) : Int) == ((z.toNat : Nat) : Int)) = false := by
                    refine beq_eq_false_iff_ne.2 fun k => hyz (UInt8.toNat_inj.1 (by omega))
                  clear hop hyz
                  go_wp2_with fail
                  refine (seal_open x2 _ (by unfold maxLen; omega)).mono ?_
                  rw [hox.out]
                  rintro e w6 ⟨rfl, hb6⟩
                  clear hback hxs2
                  go_wp2_with fail
                  refine wp_region_later (by kernel_rfl) (by kernel_rfl) ?_
                  repeat (go_big_quiet_step (first | (go_at_call 15; exact calls_later (alive23 _)) | exact rfl))
                  refine wpQuiet_nil ?_
                  rintro _ ⟨e1, rfl⟩
                  go_wp2_with fail
                  go_ret
                  exact ⟨rfl, bthen (bthen hbel3 hb6) e1.property⟩
          · go_wp2_with fail
            refine (alive23 _).mono ?_
            rintro e w6 ⟨rfl, hb6⟩
            go_wp2_with fail
            go_ret
            exact ⟨rfl, bthen hb5 hb6⟩
        · have hox : Hid (openRes x = (⟨#[]⟩, 12)) := by
            show _ = _
            refine openRes_no (by omega) ?_
            rw [hXL.out, htl.out]
            refine opens_change _ _ (by rw [length_data]; omega) _ ?_
            rw [hci.out]
            intro k
            refine xor_ne c (UInt8.ofNat d.toNat) ?_ (Option.some.inj k).symm
            intro k2
            apply hz
            have := congrArg UInt8.toNat k2
            rw [UInt8.toNat_ofNat', Nat.mod_eq_of_lt (by omega)] at this
            simp at this
            omega
          have hz2 : (d == 0) = false := beq_eq_false_iff_ne.2 hz
          clear hz hu8
          go_wp2_with fail
          refine (seal_open x _ (by unfold maxLen; omega)).mono ?_
          rw [hox.out]
          rintro e w4 ⟨rfl, hb4⟩
          clear hback hxs
          have hb5 := bthen hbel3 hb4
          clear hbel3 hb4
          by_cases hnx : i + 1 < s.size
          · go_upto_region 15 with (fail)
            have hcv := HCV.out w4
            go_cut [13] from 88 to 89 (fun b wc => ∃ g cap : Nat, b = .slice (some ⟨g, 0, none⟩) (s.size + 4) cap ∧ w.heap.size ≤ g ∧ Bts wc g t.data.toList ∧ Below w.heap.size w wc)
            case first =>
              go_wp2_with fail
              go_meet
              case rel =>
                refine ⟨w4.heap.size, _, rfl, hb5.size, ?_, balloc hb5.drew _⟩
                have h := Bts.made w4 t (grownCap w4 t.size 0 5) 5
                simp only [hts] at h
                exact h
            case rest =>
              clear hcv hci hox hb5 hc0
              obtain ⟨g2, cap2, rfl, hg2, hbts, hbel⟩ := hcut
              have hl := hL.out
              have hls : s.data.toList.length = s.size := length_data s
              obtain ⟨k0, f0⟩ := hbts.2 i (by omega)
              obtain ⟨k1, f1⟩ := hbts.2 (i + 1) (by omega)
              have hj : i + 1 < t.size := by omega
              have hti : t[i]'hi = t.data.toList[i]'(by omega) := rfl
              have htj : t[i + 1]'hj = t.data.toList[i + 1]'(by omega) := rfl
              have hc1 : Hid (s.data.toList[i]? = some (t.data.toList[i]'(by omega))) := by
                show _ = _
                have e := List.getElem?_eq_getElem (l := t.data.toList) (i := i) (by omega)
                rw [← e, htl.out]
                exact (List.getElem?_append_left (by omega)).symm
              have hc2 : Hid (s.data.toList[i + 1]? = some (t.data.toList[i + 1]'(by omega))) := by
                show _ = _
                have e := List.getElem?_eq_getElem (l := t.data.toList) (i := i + 1) (by omega)
                rw [← e, htl.out]
                exact (List.getElem?_append_left (by omega)).symm
              generalize t.data.toList[i]'(by omega) = y at *
              generalize t.data.toList[i + 1]'(by omega) = z at *
              have hy0 := byte_lt y
              have hz0 := byte_lt z
              clear hl hls
              go_upto_region 16 with (fail)
              go_cut [] from 90 to 105 (fun w3 => Bts w3 g2 ((t.data.toList.set i z).set (i + 1) y) ∧ Below w.heap.size w w3)
              case first =>
                clear hti htj
                go_region
                all_goals
                  go_wp2_with fail
                  go_meet
                case rel =>
                  exact ⟨(hbts.set i z).set (i + 1) y, ((hbel.setCell hg2 _).setCell hg2 _).drew⟩
              case rest =>
                obtain ⟨hb3, hbel3⟩ := hcut
                have hback := hb3.back (P := Try.prog) (n := s.size + 4) (cap := cap2) (by rw [List.length_set, List.length_set]; exact hL.out) 41 9 5 Try.underlying41 Try.underlying5 Try.underlying9
                obtain ⟨x2, hx2⟩ : ∃ x : ByteArray, x = ⟨((t.data.toList.set i z).set (i + 1) y).toArray⟩ := ⟨_, rfl⟩
                rw [← hx2] at hback
                have hxl2 : x2.data.toList = (t.data.toList.set i z).set (i + 1) y := by rw [hx2]
                have hxs2 : x2.size = s.size + 4 := by rw [← length_data, hxl2, List.length_set, List.length_set]; exact hL.out
                have hop : OpensL x2.data.toList ↔ y = z := by
                  rw [hxl2, htl.out]
                  exact opens_swap _ _ (by have := length_data s; omega) _ _ hc1.out hc2.out
                clear hx2 hxl2 k0 k1 f0 f1 hbts hb3
                by_cases hyz : y = z
                · have hox : Hid ((openRes x2).2 = 0) := by show _ = _; rw [openRes_yes (by omega) (hop.2 hyz)]
                  have hyz2 : (((y.toNat : Nat) : Int) == ((z.toNat : Nat) : Int)) = true := by rw [hyz]; simp
                  clear hop hyz
                  go_wp2_with fail
                  refine (seal_open x2 _ (by unfold maxLen; omega)).mono ?_
                  rw [hox.out]
                  rintro e w6 ⟨rfl, hb6⟩
                  clear hback hxs2
                  go_wp2_with fail
                  refine wp_region_later (by kernel_rfl) (by kernel_rfl) ?_
                  repeat (go_big_quiet_step (first | (go_at_call 15; exact calls_later (alive23 _)) | exact rfl))
                  refine wpQuiet_nil ?_
                  rintro _ ⟨e1, rfl⟩
                  go_wp2_with fail
                  go_ret
                  exact ⟨rfl, bthen (bthen hbel3 hb6) e1.property⟩
                · have hox : Hid ((openRes x2).2 = 12) := by show _ = _; rw [openRes_no (by omega) (fun k => hyz (hop.1 k))]
                  have hyz2 : (((y.toNat : Nat) : Int) == ((z.toNat : Nat) : Int)) = false := by
                    refine beq_eq_false_iff_ne.2 fun k => hyz (UInt8.toNat_inj.1 (by omega))
                  clear hop hyz
                  go_wp2_with fail
                  refine (seal_open x2 _ (by unfold maxLen; omega)).mono ?_
                  rw [hox.out]
                  rintro e w6 ⟨rfl, hb6⟩
                  clear hback hxs2
                  go_wp2_with fail
                  refine wp_region_later (by kernel_rfl) (by kernel_rfl) ?_
                  repeat (go_big_quiet_step (first | (go_at_call 15; exact calls_later (alive23 _)) | exact rfl))
                  refine wpQuiet_nil ?_
                  rintro _ ⟨e1, rfl⟩
                  go_wp2_with fail
                  go_ret
                  exact ⟨rfl, bthen (bthen hbel3 hb6) e1.property⟩
          · go_wp2_with fail
            refine (alive23 _).mono ?_
            rintro e w6 ⟨rfl, hb6⟩
            go_wp2_with fail
            go_ret
            exact ⟨rfl, bthen hb5 hb6⟩
  · by_cases hneg : at_ < 0
    · go_enter Try.func6, Try.ntmps6
      go_wp2_with fail
      refine (seal_seal s _ (by omega)).mono ?_
      rw [← hT.out]
      rintro e w1 ⟨rfl, hb1⟩
      go_wp2_with fail
      refine (seal_open t _ (by unfold maxLen; omega)).mono ?_
      rw [hto.out]
      rintro e w2 ⟨rfl, hb2⟩
      go_wp2_with fail
      refine (alive23 _).mono ?_
      rintro e w3 ⟨rfl, hb3⟩
      go_wp2_with fail
      go_ret
      exact ⟨rfl, bthen (bthen hb1 hb2) hb3⟩
    · have hge : (s.size : Int) + 4 ≤ at_ := by omega
      clear hin
      go_enter Try.func6, Try.ntmps6
      go_wp2_with fail
      refine (seal_seal s _ (by omega)).mono ?_
      rw [← hT.out]
      rintro e w1 ⟨rfl, hb1⟩
      go_wp2_with fail
      refine (seal_open t _ (by unfold maxLen; omega)).mono ?_
      rw [hto.out]
      rintro e w2 ⟨rfl, hb2⟩
      go_wp2_with fail
      refine (alive23 _).mono ?_
      rintro e w3 ⟨rfl, hb3⟩
      go_wp2_with fail
      go_ret
      exact ⟨rfl, bthen (bthen hb1 hb2) hb3⟩
end Go.Proofs.Ytclndbaafibaiaa

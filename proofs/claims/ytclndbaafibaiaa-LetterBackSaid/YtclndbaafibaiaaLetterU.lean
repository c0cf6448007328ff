/- The law LetterBack, walked. By the prover of this repo. -/
import Derived.Test.YtclndbaafibaiaaLetterT
import Derived.Test.YtclndbaafibaiaaSealU
namespace Go.Proofs.Ytclndbaafibaiaa
open Go.RowKit
open VaryM SealM

/-- What lies in LetterBack's own memory: the letter, and the place and the change. -/
structure Lst (W w : World) (ep fr co : Int) (bo : ByteArray) (t0 t1 : Int) : Prop where
  bel : Below W.heap.size W w
  X : Blk w W.heap.size 68 #[.int .i64 ep, .int .i64 fr, .int .u64 co, .string bo]
  T : Blk w (W.heap.size + 1 + 1) 83 #[.int .i64 t0, .int .i64 t1]
section
variable {W w w' : World} {ep fr co t0 t1 : Int} {bo : ByteArray}
theorem Lst.kept (D : Lst W w ep fr co bo t0 t1) (hb : Below w.heap.size w w') : Lst W w' ep fr co bo t0 t1 := ⟨bthen D.bel hb, D.X.kept hb, D.T.kept hb⟩
theorem Lst.alloc (D : Lst W w ep fr co bo t0 t1) (o : Obj) : Lst W (w.alloc o) ep fr co bo t0 t1 := ⟨balloc D.bel o, D.X.alloc o, D.T.alloc o⟩
theorem Lst.drew (D : Lst W w ep fr co bo t0 t1) : Lst W w.drew ep fr co bo t0 t1 := ⟨D.bel.drew, D.X, D.T⟩
theorem Lst.set (D : Lst W w ep fr co bo t0 t1) {p : Addr} (hp : W.heap.size + 1 + 1 < p.block) (v : Value) : Lst W (w.setCell p v) ep fr co bo t0 t1 :=
  ⟨D.bel.setCell (by omega) v, D.X.off (by omega) v, D.T.off (by omega) v⟩
theorem Lst.facts (D : Lst W w ep fr co bo t0 t1) : w.cell? ⟨W.heap.size, 0, none⟩ = some (.int .i64 ep) ∧ w.cell? ⟨W.heap.size, 1, none⟩ = some (.int .i64 fr) ∧ w.cell? ⟨W.heap.size, 2, none⟩ = some (.int .u64 co) ∧ w.cell? ⟨W.heap.size, 3, none⟩ = some (.string bo) ∧
    w.cell? ⟨W.heap.size + 1 + 1, 0, none⟩ = some (.int .i64 t0) ∧ w.cell? ⟨W.heap.size + 1 + 1, 1, none⟩ = some (.int .i64 t1) ∧ W.heap.size + 1 + 1 < w.heap.size ∧ W.heap.size < w.heap.size :=
  ⟨D.X.cell 0, D.X.cell 1, D.X.cell 2, D.X.cell 3, D.T.cell 0, D.T.cell 1, D.T.lt, D.X.lt⟩
end

/-- A letter of which one byte is changed is none. -/
theorem dec_changed (s : List UInt8) (i : Nat) (hi : i < s.length + 4) (c d : UInt8) (hc : (sealL s)[i]? = some c) (hd : d ≠ 0) (x : ByteArray) (hx : x.data.toList = (sealL s).set i (c ^^^ d)) : decR x = (noLet, 12) := by
  have hno := opens_change s i hi (c ^^^ d) (by rw [hc]; intro h; injection h with h; exact xor_ne c d hd h.symm)
  rw [← hx] at hno
  have hl : x.size = s.length + 4 := by rw [← length_data, hx, List.length_set, sealL_length]
  unfold decR
  rw [openRes_no (by omega) hno]
  rfl

/-- The first half of what is asked: whatever is read is written just so. -/
theorem read_case (t : ByteArray) (ht : t.size ≤ 3000) (v : Let) (e : Int) (h : decR t = (v, e)) :
    (e = 0 ∧ v.Wf ∧ encodeF v = (t, 0) ∧ rightF v = true ∧ decide (v.co < 281474976710656) = true) ∨ (e ≠ 0) := by
  by_cases he : e = 0
  · subst he
    obtain ⟨h1, h2, h3⟩ := dec_back t v (by omega) h
    exact .inl ⟨rfl, h1, by unfold encodeF; rw [if_pos h2, h3], h2, decide_eq_true (right_parts h2).2.2.2.1⟩
  · exact .inr he

set_option maxRecDepth 100000 in
set_option maxHeartbeats 4000000 in
theorem letterBack_walk (x : Let) (s : ByteArray) (b : Bool) (t0 t1 : Int) (w : World) (h : x.Wf) (hs : s.size ≤ 140737488351232) (h0 : -9223372036854775808 ≤ t0 ∧ t0 ≤ 9223372036854775807) (h1 : -9223372036854775808 ≤ t1 ∧ t1 ≤ 9223372036854775807) :
    Calls Try.prog 13 #[lv x, .agg #[.string s, .bool b], .agg #[.int .i64 t0, .int .i64 t1]] w fun e w' => e = .returned (.bool true) ∧ Below w.heap.size w w' := by
  obtain ⟨t, ht, hts⟩ : ∃ t : ByteArray, Hid (t = if b = true then sealed s else s) ∧ t.size ≤ 140737488351236 := ⟨_, rfl, by split; · rw [sealed_size]; omega
                                                                                                                              · omega⟩
  have hS := fun W => ref_seal s W (by omega)
  have hE := fun W => letter_encode x h W
  have hR := fun W => letter_right x h W
  have hb7 := h.b1
  have hback := hide (fun hr => dec_enc x h hr)
  have hsz := hide (fun hr => encode_size x h hr)
  obtain ⟨ep, fr, co, bo⟩ := x
  simp only at hb7
  replace hS := hide hS
  replace hE := hide hE
  replace hR := hide hR
  go_enter Try.func13, Try.ntmps13
  go_upto_if 24 with (fail)
  go_cut [7] (fun v wc => v = .string t ∧ Lst w wc ep fr co bo t0 t1)
  case first =>
    have D0 : Lst w (((w.alloc (.cells #[.int .i64 ep, .int .i64 fr, .int .u64 co, .string bo] 68)).alloc (.cells #[.string s, .bool b] 77)).alloc (.cells #[.int .i64 t0, .int .i64 t1] 83)) ep fr co bo t0 t1 :=
      ⟨balloc (balloc (balloc0 _ _) _) _, ((Blk.made _ _ _).alloc _).alloc _, Blk.made_at _ _ _ (by simp)⟩
    cases b
    · have ht2 : Hid (s = t) := by show _ = _; rw [ht.out]; rfl
      go_wp2_with fail
      go_meet
      case rel => exact ⟨by rw [ht2.out], D0⟩
    · have ht2 : Hid (sealed s = t) := by show _ = _; rw [ht.out]; rfl
      go_wp2_with fail
      refine (hS.out _).mono ?_
      rintro e w1 ⟨rfl, hb1⟩
      go_wp2_with fail
      go_meet
      case rel => exact ⟨by rw [ht2.out], D0.kept hb1⟩
  case rest =>
    obtain ⟨rfl, D⟩ := hcut
    clear ht hS hs
    obtain ⟨x0, x1, x2, x3, y0, y1, hlt, hlt2⟩ := D.facts
    by_cases big1 : 3000 < bo.size
    · go_wp2_with fail
      refine (alive29 _).mono ?_
      rintro e w1 ⟨rfl, hb1⟩
      go_wp2_with fail
      go_ret
      exact ⟨rfl, bthen D.bel hb1⟩
    by_cases big2 : 3000 < t.size
    · go_wp2_with fail
      refine (alive29 _).mono ?_
      rintro e w1 ⟨rfl, hb1⟩
      go_wp2_with fail
      go_ret
      exact ⟨rfl, bthen D.bel hb1⟩
    obtain ⟨⟨ep1, fr1, co1, bo1⟩, e1, hx⟩ : ∃ v e, decR t = (v, e) := ⟨_, _, rfl⟩
    have hDt := fun W => letter_read t W (by omega)
    rw [hx] at hDt
    have hcase := hide (read_case t (by omega) _ _ hx)
    replace hDt := hide hDt
    clear hx
    go_wp2_with fail
    refine (hDt.out _).mono ?_
    rintro e w1 ⟨rfl, hb1⟩
    have D1 := D.kept hb1
    clear D x0 x1 x2 x3 y0 y1 hlt hlt2 hb1
    go_upto_if 43 with (fail)
    go_cut [] (fun wc => Lst w wc ep fr co bo t0 t1)
    case first =>
      have V0 := Blk.made w1 68 #[.int .i64 ep1, .int .i64 fr1, .int .u64 co1, .string bo1]
      have D2 := D1.alloc (.cells #[.int .i64 ep1, .int .i64 fr1, .int .u64 co1, .string bo1] 68)
      clear D1
      rcases hcase.out with ⟨rfl, hwf, hen, hri, hco⟩ | hne
      · have hE1 := fun W => letter_encode ⟨ep1, fr1, co1, bo1⟩ hwf W
        have hR1 := fun W => letter_right ⟨ep1, fr1, co1, bo1⟩ hwf W
        have hC1 := fun W => crew_right co1 W
        rw [hen] at hE1
        rw [hri] at hR1
        rw [hco] at hC1
        replace hE1 := hide hE1
        replace hR1 := hide hR1
        replace hC1 := hide hC1
        clear hcase hen hri hco hwf
        have c0 := V0.cell 0
        have c1 := V0.cell 1
        have c2 := V0.cell 2
        have c3 := V0.cell 3
        simp only [List.getElem?_toArray, List.getElem?_cons_zero, List.getElem?_cons_succ] at c0 c1 c2 c3
        go_wp2_with fail
        refine (hE1.out _).mono ?_
        rintro e w2 ⟨rfl, hb2⟩
        have V1 := V0.kept hb2
        have D3 := D2.kept hb2
        clear V0 D2 c0 c1 c2 c3
        have c0 := V1.cell 0
        have c1 := V1.cell 1
        have c2 := V1.cell 2
        have c3 := V1.cell 3
        simp only [List.getElem?_toArray, List.getElem?_cons_zero, List.getElem?_cons_succ] at c0 c1 c2 c3
        go_wp2_with fail
        refine (hR1.out _).mono ?_
        rintro e w3 ⟨rfl, hb3⟩
        have V2 := V1.kept hb3
        have D4 := D3.kept hb3
        clear V1 D3 c0 c1 c2 c3
        have c2 := V2.cell 2
        simp only [List.getElem?_toArray, List.getElem?_cons_zero, List.getElem?_cons_succ] at c2
        go_wp2_with fail
        refine (hC1.out _).mono ?_
        rintro e w4 ⟨rfl, rfl⟩
        go_wp2_with fail
        go_meet
        case rel => exact D4
      · have hne2 : (e1 == 0) = false := by simpa using hne
        clear hcase hne
        go_wp2_with fail
        go_meet
        case rel => exact D2
    case rest =>
      have D2 := hcut
      clear D1 hcut hcase
      obtain ⟨x0, x1, x2, x3, y0, y1, hlt, hlt2⟩ := D2.facts
      cases hr : rightF ⟨ep, fr, co, bo⟩
      · have hen : encodeF ⟨ep, fr, co, bo⟩ = (⟨#[]⟩, 2) := if_neg (by rw [hr]; simp)
        rw [hen] at hE
        rw [hr] at hR
        clear hr hen hback hsz
        go_wp2_with fail
        refine (hE.out _).mono ?_
        rintro e w2 ⟨rfl, hb2⟩
        have D3 := D2.kept hb2
        clear D2 x0 x1 x2 x3 y0 y1 hlt hlt2
        obtain ⟨x0, x1, x2, x3, y0, y1, hlt, hlt2⟩ := D3.facts
        go_wp2_with fail
        refine (hR.out _).mono ?_
        rintro e w3 ⟨rfl, hb3⟩
        go_wp2_with fail
        refine (alive29 _).mono ?_
        rintro e w4 ⟨rfl, hb4⟩
        go_wp2_with fail
        go_ret
        exact ⟨rfl, bthen (bthen D3.bel hb3) hb4⟩
      · have hen : encodeF ⟨ep, fr, co, bo⟩ = (sealed (plainF ⟨ep, fr, co, bo⟩), 0) := if_pos hr
        rw [hen] at hE
        have hdb := hback.out hr
        have hz := hsz.out hr
        have hl := hide (sealed_list (plainF ⟨ep, fr, co, bo⟩))
        have hps := sealed_size (plainF ⟨ep, fr, co, bo⟩)
        clear hr hen hback hsz hR

        generalize hT : plainF ⟨ep, fr, co, bo⟩ = pl at *
        generalize sealed pl = S at *
        clear hT
        have hDs := fun W => letter_read S W (by omega)
        rw [hdb] at hDs
        replace hDs := hide hDs
        have hS3 : (S.size : Int) ≤ 3028 := by omega
        replace hps := hide hps
        clear hdb
        go_wp2_with fail
        refine (hE.out _).mono ?_
        rintro e w2 ⟨rfl, hb2⟩
        have D3 := D2.kept hb2
        clear D2 x0 x1 x2 x3 y0 y1 hlt hlt2
        go_wp2_with fail
        refine (hDs.out _).mono ?_
        rintro e w3 ⟨rfl, hb3⟩
        have D4 := D3.kept hb3
        clear D3
        obtain ⟨x0, x1, x2, x3, y0, y1, hlt, hlt2⟩ := D4.facts
        go_upto_region 17 with (fail)
        have D5 := D4.alloc (.cells #[.int .i64 ep, .int .i64 fr, .int .u64 co, .string bo] 68)
        clear D4 x0 x1 x2 x3 y0 y1 hlt hlt2
        go_cut [16, 17] (fun u v wc => u = .int .i64 t0 ∧ (∃ d : Int, v = .int .u8 d ∧ 0 ≤ d ∧ d ≤ 255) ∧ Lst w wc ep fr co bo t0 t1)
        case first =>
          obtain ⟨x0, x1, x2, x3, y0, y1, hlt, hlt2⟩ := D5.facts
          go_quiet (fail)
          go_wp2_with fail
          go_meet
          case rel =>
            refine ⟨rfl, ⟨_, rfl, ?_, ?_⟩, ?_⟩
            · try rw [IntKind.wrap_u8]
              try omega
            · try rw [IntKind.wrap_u8]
              try omega
            · exact ⟨below_drewN D5.bel nq, D5.X.drewN nq, D5.T.drewN nq⟩
        case rest =>
          obtain ⟨rfl, ⟨d, rfl, hd0, hd1⟩, D6⟩ := hcut
          clear D5
          by_cases hin : 0 ≤ t0 ∧ t0 < (S.size : Int) ∧ d ≠ 0
          · obtain ⟨hi0, hi1, hdz⟩ := hin
            have hdz2 : (d == 0) = false := by simpa using hdz
            obtain ⟨i, rfl⟩ := Int.eq_ofNat_of_zero_le hi0
            have hi : i < S.size := by omega
            clear hdz
            go_upto_region 20 with (fail)
            have hcv := run_bytes_of_string (P := Try.prog) wc 9 41 5 S Try.underlying9 Try.underlying41 Try.underlying5
            go_cut [18] (fun b wd => ∃ g cap : Nat, b = .slice (some ⟨g, 0, none⟩) S.size cap ∧ w.heap.size + 1 + 1 < g ∧ Bts wd g S.data.toList ∧ Lst w wd ep fr co bo i t1)
            case first =>
              go_wp2_with fail
              go_meet
              case rel =>
                exact ⟨wc.heap.size, _, rfl, D6.T.lt, Bts.made wc S (grownCap wc S.size 0 5) 5, D6.drew.alloc _⟩
            case rest =>
              obtain ⟨g, cap, rfl, hg0, hbts, D7⟩ := hcut
              clear hcv D6
              have hll : S.data.toList.length = S.size := length_data S
              obtain ⟨c0, f0⟩ := hbts.2 i (by omega)
              have hci : Hid ((sealL pl.data.toList)[i]? = some (S.data.toList[i]'(by omega))) := by
                show _ = _
                rw [← hl.out]
                exact List.getElem?_eq_getElem (by omega)
              generalize S.data.toList[i]'(by omega) = cc at *
              have hc0 := byte_lt cc
              have hu8 := hide (u8_of d hd0 hd1 cc)
              have hdn : Hid (UInt8.ofNat d.toNat ≠ 0) := by
                show _ ≠ _
                intro k
                have k2 := congrArg UInt8.toNat k
                rw [UInt8.toNat_ofNat', Nat.mod_eq_of_lt (by omega)] at k2
                have k3 : d = 0 := by simp at k2; omega
                rw [k3] at hdz2
                simp at hdz2
              have hL := hide hll
              clear hll
              go_upto_region 21 with (fail)
              go_cut [] (fun w3 => Bts w3 g (S.data.toList.set i (cc ^^^ UInt8.ofNat d.toNat)) ∧ Lst w w3 ep fr co bo i t1)
              case first =>
                go_wp2_with fail
                go_meet
                case rel =>
                  have h := hbts.set i (cc ^^^ UInt8.ofNat d.toNat)
                  rw [hu8.out] at h
                  exact ⟨h, D7.set hg0 _⟩
              case rest =>
                obtain ⟨hb3, D8⟩ := hcut
                have hback2 := hb3.back (P := Try.prog) (n := S.size) (cap := cap) (by rw [List.length_set]; exact hL.out) 41 9 5 Try.underlying41 Try.underlying5 Try.underlying9
                obtain ⟨x, hx⟩ : ∃ x : ByteArray, x = ⟨(S.data.toList.set i (cc ^^^ UInt8.ofNat d.toNat)).toArray⟩ := ⟨_, rfl⟩
                rw [← hx] at hback2
                have hxl : x.data.toList = S.data.toList.set i (cc ^^^ UInt8.ofNat d.toNat) := by rw [hx]
                have hxs : x.size = S.size := by rw [← length_data, hxl, List.length_set]; exact hL.out
                have hdx : decR x = (noLet, 12) := dec_changed pl.data.toList i (by rw [length_data, ← hps.out]; exact hi) cc _ hci.out hdn.out x (by rw [hxl, hl.out])
                have hDx := fun W => letter_read x W (by omega)
                rw [hdx] at hDx
                replace hDx := hide hDx
                clear hx hxl hxs hdx c0 f0 hbts hb3 D7
                go_wp2_with fail
                refine (hDx.out _).mono ?_
                rintro e w4 ⟨rfl, hb4⟩
                go_wp2_with fail
                refine (alive29 _).mono ?_
                rintro e w5 ⟨rfl, hb5⟩
                go_wp2_with fail
                go_ret
                exact ⟨rfl, bthen (balloc (bthen D8.bel hb4) _) hb5⟩
          · by_cases ha : 0 ≤ t0
            · by_cases hb : t0 < (S.size : Int)
              · obtain rfl : d = 0 := by
                  by_cases hd : d = 0
                  · exact hd
                  · exact absurd ⟨ha, hb, hd⟩ hin
                clear hin
                go_wp2_with fail
                refine (alive29 _).mono ?_
                rintro e w4 ⟨rfl, hb4⟩
                go_wp2_with fail
                go_ret
                exact ⟨rfl, bthen D6.bel hb4⟩
              · clear hin
                go_wp2_with fail
                refine (alive29 _).mono ?_
                rintro e w4 ⟨rfl, hb4⟩
                go_wp2_with fail
                go_ret
                exact ⟨rfl, bthen D6.bel hb4⟩
            · clear hin
              go_wp2_with fail
              refine (alive29 _).mono ?_
              rintro e w4 ⟨rfl, hb4⟩
              go_wp2_with fail
              go_ret
              exact ⟨rfl, bthen D6.bel hb4⟩
end Go.Proofs.Ytclndbaafibaiaa

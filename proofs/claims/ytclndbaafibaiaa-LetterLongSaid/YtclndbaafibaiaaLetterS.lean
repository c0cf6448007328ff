/- The walks of layer 29, on: the reference's letter of bytes, walked. By the prover of this repo. -/
import Derived.Test.YtclndbaafibaiaaLetterR
import Derived.BigQuiet
namespace Go.Proofs.Ytclndbaafibaiaa
open Go.RowKit
open VaryM SealM

theorem badR_two (v b : Int) : badR (3 - 1) v b = (!decide (v < 281474976710656) || !hasF v b) := by simp [badR]

set_option maxRecDepth 100000 in
set_option maxHeartbeats 4000000 in
theorem ref29_decode (all : ByteArray) (W : World) (hs : all.size ≤ 1000000000) : Calls Try.prog 48 #[.string all] W fun r w' => r = .returned (.tuple #[lv (decR all).1, .int .i64 (decR all).2]) ∧ Below W.heap.size W w' := by
  have hO := fun V => ref_open all V (by omega)
  have hos : (openRes all).1.size ≤ all.size := by
    unfold openRes
    split
    · exact Nat.zero_le _
    · split
      · simp
      · exact Nat.zero_le _
  generalize hG : decR all = G
  unfold decR at hG
  generalize openRes all = o at hO hG hos
  obtain ⟨t, e⟩ := o
  simp only at hO hG hos
  replace hO := hide hO
  by_cases he : e = 0
  · subst he
    rw [if_neg (by simp)] at hG
    by_cases h4 : t.size < 4
    · rw [if_pos h4] at hG
      have hres : Hid ((noLet, (9 : Int)) = G) := hG
      clear hG
      go_enter Try.func48, Try.ntmps48
      go_wp2_with fail
      refine (hO.out _).mono ?_
      rintro r w1 ⟨rfl, hb1⟩
      obtain ⟨r0, r1, r2, r3, fr, n0, n1, n2, n3⟩ := made_two W w1 _ _ _ _ _ _ _ _ _ _ hb1
      go_wp2_with fail
      refine bodyPost_ret (v := .tuple #[lv noLet, .int .i64 9]) (by simp [results, Try.results48, go_sem, r0, r1, r2, r3]) rfl ⟨by rw [← hres.out], ?_⟩
      exact ((((bthen (balloc (balloc0 _ _) _) hb1).setCell (by simp) _).setCell (by simp) _).setCell (by simp) _).setCell (by simp) _
    · rw [if_neg h4] at hG
      by_cases hm : t.extract 0 4 = ⟨#[68, 87, 76, 1]⟩
      · rw [if_neg (fun h => h hm)] at hG
        have hme : ((t.extract 0 4).toList == [68, 87, 76, 1]) = true := by rw [hm, ByteArray.toList_eq]; simp
        have hsz : (t.extract 4 t.size).size ≤ all.size := Nat.le_trans (by simp) hos
        replace hG := hide hG
        clear hm
        go_enter Try.func48, Try.ntmps48
        go_wp2_with fail
        refine (hO.out _).mono ?_
        rintro r w1 ⟨rfl, hb1⟩
        obtain ⟨r0, r1, r2, r3, fr, n0, n1, n2, n3⟩ := made_two W w1 _ _ _ _ _ _ _ _ _ _ hb1
        have hA := (((Blk.made W 72 #[.int .i64 0, .int .i64 0, .int .u64 0, .string ⟨#[]⟩]).alloc (.cells #[.int .i64 0, .int .i64 0, .int .u64 0, .string ⟨#[]⟩] 72)).kept hb1)
        have hB := ((Blk.made_at (W.alloc (.cells #[.int .i64 0, .int .i64 0, .int .u64 0, .string ⟨#[]⟩] 72)) 72 #[.int .i64 0, .int .i64 0, .int .u64 0, .string ⟨#[]⟩] (g := W.heap.size + 1) (by simp)).kept hb1)
        have hlB := hB.lt
        have D0 : Rst W (w1.alloc (.cells #[.int .i64 0, .int .i64 0, .int .i64 0, .int .i64 0] 101)) w1.heap.size 0 0 0 0 :=
          ⟨balloc (bthen (balloc (balloc0 _ _) _) hb1) _, hA.alloc _, hB.alloc _, Blk.made _ _ _, hlB⟩
        clear hA hB
        go_wp2_with fail
        go_loopw [5, 8] (fun s i wr => ∃ (k : Nat) (a b d n : Int) (u : ByteArray), k ≤ 4 ∧ u.size ≤ all.size ∧ 0 ≤ d ∧ d < 9223372036854775808 ∧ s = .string u ∧ i = .int .i64 k ∧ Rst W wr w1.heap.size a b d n ∧ Hid (refT (4 - k) a b d n u = G)) (fun _ i _ => 4 - (intOf i).toNat)
        case atStart => exact ⟨0, 0, 0, 0, 0, _, by omega, hsz, by omega, by omega, rfl, rfl, D0, hG.out⟩
        case round =>
          clear r0 r1 r2 r3 fr n0 n1 n2 n3 D0 hsz hme
          clear hG
          obtain ⟨k, a, b, d, n, u, hk, hus, hd0, hd1, rfl, rfl, D, hgo⟩ := hrel
          have hl := D.l
          obtain ⟨r0, r1, r2, r3, fr, n0, n1, n2, n3⟩ := D.nofacts
          obtain ⟨a0, a1, a2, a3, fa⟩ := D.nums
          by_cases hk4 : k = 4
          · subst hk4
            by_cases q1 : (u.size : Int) < n
            · have hres : Hid ((noLet, (9 : Int)) = G) := by rw [← hgo.out]; show _ = refT 0 a b d n u; rw [refT, if_pos q1]
              go_wp2_with fail
              refine bodyPost_ret (v := .tuple #[lv noLet, .int .i64 9]) (by simp [results, Try.results48, go_sem, r0, r1, r2, r3]) rfl ⟨by rw [← hres.out], ?_⟩
              exact D.no
            · by_cases q2 : n < (u.size : Int)
              · have hres : Hid ((noLet, (11 : Int)) = G) := by rw [← hgo.out]; show _ = refT 0 a b d n u; rw [refT, if_neg q1, if_pos q2]
                go_wp2_with fail
                refine bodyPost_ret (v := .tuple #[lv noLet, .int .i64 11]) (by simp [results, Try.results48, go_sem, r0, r1, r2, r3]) rfl ⟨by rw [← hres.out], ?_⟩
                exact D.no
              · have hres : Hid (((⟨a, b, d, u⟩ : Let), (0 : Int)) = G) := by rw [← hgo.out]; show _ = refT 0 a b d n u; rw [refT, if_neg q1, if_neg q2]
                go_wp2_with fail
                refine bodyPost_ret (v := .tuple #[lv ⟨a, b, d, u⟩, .int .i64 0]) (by simp [results, Try.results48, go_sem, r0, r1, r2, r3]) rfl ⟨by rw [← hres.out], ?_⟩
                exact (((D.bel.setCell (by simp) _).setCell (by simp) _).setCell (by simp) _).setCell (by simp) _
          have hg := fun V => ref22_get_big u V (by omega)
          have hfa := get_facts u.data.toList
          unfold getV at hg
          rw [Array.length_toList, show u.data.size = u.size from rfl] at hfa
          generalize hgg : get u.data.toList = g at hg hfa
          obtain ⟨v, sz, e⟩ := g
          simp only at hg hfa
          replace hg := hide hg
          have hv1 := hfa.1
          by_cases hee : e = 0
          · subst hee
            have hsz := (hfa.2.1 rfl).2.1
            have hxs : (u.extract sz u.size).size ≤ u.size := by simp
            clear hfa
            rcases (show k = 0 ∨ k = 1 ∨ k = 2 ∨ k = 3 by omega) with rfl | rfl | rfl | rfl
            · have hgo2 : Hid (refT 3 v b d n (u.extract sz u.size) = G) := by rw [← hgo.out]; exact (refT_on (k := 3) hgg (by simp [badR]) (by simp)).symm
              clear hgg
              go_wp2_with fail
              refine (hg.out _).mono ?_
              rintro r w2 ⟨rfl, rfl⟩
              obtain ⟨r0, r1, r2, r3, fr, n0, n1, n2, n3⟩ := (D.set0 v).nofacts
              obtain ⟨b0, b1, b2, b3, fb⟩ := (D.set0 v).nums
              go_wp2_with fail
              go_roundw
              case rel => exact ⟨1, v, b, d, n, u.extract sz u.size, by omega, by omega, hd0, hd1, rfl, rfl, D.set0 v, hgo2⟩
              case measure => simp [intOf]
            · have hI := fun V => ref27_is (v : Int) V
              by_cases hb : 0 ≤ (v : Int) ∧ (v : Int) < 48
              · have hgo2 : Hid (refT 2 a v d n (u.extract sz u.size) = G) := by rw [← hgo.out]; exact (refT_on (k := 2) hgg (by simp [badR]; omega) (by simp)).symm
                rw [decide_eq_true hb] at hI
                replace hI := hide hI
                clear hgg
                go_wp2_with fail
                refine (hg.out _).mono ?_
                rintro r w2 ⟨rfl, rfl⟩
                obtain ⟨r0, r1, r2, r3, fr, n0, n1, n2, n3⟩ := (D.set1 v).nofacts
                obtain ⟨b0, b1, b2, b3, fb⟩ := (D.set1 v).nums
                go_wp2_with fail
                refine (hI.out _).mono ?_
                rintro r w2 ⟨rfl, rfl⟩
                go_wp2_with fail
                go_roundw
                case rel => exact ⟨2, a, v, d, n, u.extract sz u.size, by omega, by omega, hd0, hd1, rfl, rfl, D.set1 v, hgo2⟩
                case measure => simp [intOf]
              · have hres : Hid ((noLet, (10 : Int)) = G) := by rw [← hgo.out]; exact (refT_bad (k := 2) hgg (by simp [badR]; omega)).symm
                rw [decide_eq_false hb] at hI
                replace hI := hide hI
                clear hgg hb
                go_wp2_with fail
                refine (hg.out _).mono ?_
                rintro r w2 ⟨rfl, rfl⟩
                obtain ⟨r0, r1, r2, r3, fr, n0, n1, n2, n3⟩ := (D.set1 v).nofacts
                obtain ⟨b0, b1, b2, b3, fb⟩ := (D.set1 v).nums
                go_wp2_with fail
                refine (hI.out _).mono ?_
                rintro r w2 ⟨rfl, rfl⟩
                go_wp2_with fail
                refine bodyPost_ret (v := .tuple #[lv noLet, .int .i64 10]) (by simp [results, Try.results48, go_sem, r0, r1, r2, r3]) rfl ⟨by rw [← hres.out], ?_⟩
                exact (D.set1 v).no
            · have hI := fun V => ref27_right (v : Int) V
              have hJ := fun V => ref27_has (v : Int) b V (by omega) (by omega)
              have hbad := badR_two (v : Int) b
              have hon := fun h => (refT_on (k := 1) (a := a) (b := b) (d := d) (n := n) hgg h (by simp)).symm
              have hno := fun h => (refT_bad (k := 1) (a := a) (b := b) (d := d) (n := n) hgg h).symm
              generalize decide ((v : Int) < 281474976710656) = R at hI hbad
              generalize hasF (v : Int) b = H at hJ hbad
              replace hI := hide hI
              replace hJ := hide hJ
              cases R
              · have hres : Hid ((noLet, (10 : Int)) = G) := by rw [← hgo.out]; exact hno (by rw [hbad]; rfl)
                clear hgg hon hno hbad
                go_wp2_with fail
                refine (hg.out _).mono ?_
                rintro r w2 ⟨rfl, rfl⟩
                obtain ⟨r0, r1, r2, r3, fr, n0, n1, n2, n3⟩ := (D.set2 v).nofacts
                obtain ⟨b0, b1, b2, b3, fb⟩ := (D.set2 v).nums
                go_wp2_with fail
                refine (hI.out _).mono ?_
                rintro r w2 ⟨rfl, rfl⟩
                go_wp2_with fail
                refine bodyPost_ret (v := .tuple #[lv noLet, .int .i64 10]) (by simp [results, Try.results48, go_sem, r0, r1, r2, r3]) rfl ⟨by rw [← hres.out], ?_⟩
                exact (D.set2 v).no
              · cases H
                · have hres : Hid ((noLet, (10 : Int)) = G) := by rw [← hgo.out]; exact hno (by rw [hbad]; rfl)
                  clear hgg hon hno hbad
                  go_wp2_with fail
                  refine (hg.out _).mono ?_
                  rintro r w2 ⟨rfl, rfl⟩
                  obtain ⟨r0, r1, r2, r3, fr, n0, n1, n2, n3⟩ := (D.set2 v).nofacts
                  obtain ⟨b0, b1, b2, b3, fb⟩ := (D.set2 v).nums
                  go_wp2_with fail
                  refine (hI.out _).mono ?_
                  rintro r w2 ⟨rfl, rfl⟩
                  go_wp2_with fail
                  refine (hJ.out _).mono ?_
                  rintro r w2 ⟨rfl, rfl⟩
                  go_wp2_with fail
                  refine bodyPost_ret (v := .tuple #[lv noLet, .int .i64 10]) (by simp [results, Try.results48, go_sem, r0, r1, r2, r3]) rfl ⟨by rw [← hres.out], ?_⟩
                  exact (D.set2 v).no
                · have hgo2 : Hid (refT 1 a b v n (u.extract sz u.size) = G) := by rw [← hgo.out]; exact hon (by rw [hbad]; simp)
                  clear hgg hon hno hbad
                  go_wp2_with fail
                  refine (hg.out _).mono ?_
                  rintro r w2 ⟨rfl, rfl⟩
                  obtain ⟨r0, r1, r2, r3, fr, n0, n1, n2, n3⟩ := (D.set2 v).nofacts
                  obtain ⟨b0, b1, b2, b3, fb⟩ := (D.set2 v).nums
                  go_wp2_with fail
                  refine (hI.out _).mono ?_
                  rintro r w2 ⟨rfl, rfl⟩
                  go_wp2_with fail
                  refine (hJ.out _).mono ?_
                  rintro r w2 ⟨rfl, rfl⟩
                  go_wp2_with fail
                  go_roundw
                  case rel => exact ⟨3, a, b, v, n, u.extract sz u.size, by omega, by omega, by omega, by omega, rfl, rfl, D.set2 v, hgo2⟩
                  case measure => simp [intOf]
            · by_cases hb : 1048576 < (v : Int)
              · have hres : Hid ((noLet, (13 : Int)) = G) := by rw [← hgo.out]; exact (refT_cap hgg hb).symm
                clear hgg
                go_wp2_with fail
                refine (hg.out _).mono ?_
                rintro r w2 ⟨rfl, rfl⟩
                obtain ⟨r0, r1, r2, r3, fr, n0, n1, n2, n3⟩ := (D.set3 v).nofacts
                obtain ⟨b0, b1, b2, b3, fb⟩ := (D.set3 v).nums
                go_wp2_with fail
                refine bodyPost_ret (v := .tuple #[lv noLet, .int .i64 13]) (by simp [results, Try.results48, go_sem, r0, r1, r2, r3]) rfl ⟨by rw [← hres.out], ?_⟩
                exact (D.set3 v).no
              · have hgo2 : Hid (refT 0 a b d v (u.extract sz u.size) = G) := by rw [← hgo.out]; exact (refT_on (k := 0) hgg (by simp [badR]) (by simp; omega)).symm
                clear hgg
                go_wp2_with fail
                refine (hg.out _).mono ?_
                rintro r w2 ⟨rfl, rfl⟩
                obtain ⟨r0, r1, r2, r3, fr, n0, n1, n2, n3⟩ := (D.set3 v).nofacts
                obtain ⟨b0, b1, b2, b3, fb⟩ := (D.set3 v).nums
                go_wp2_with fail
                go_roundw
                case rel => exact ⟨4, a, b, d, v, u.extract sz u.size, by omega, by omega, hd0, hd1, rfl, rfl, D.set3 v, hgo2⟩
                case measure => simp [intOf]
          · have hk3 : 4 - k = (3 - k) + 1 := by omega
            have hres : Hid ((noLet, (e : Int)) = G) := by rw [← hgo.out, hk3]; exact (refT_err hgg hee).symm
            have hk5 : k < 4 := by omega
            have hee2 : ((e : Int) != 0) = true := by simpa using hee
            clear hgg hfa hgo hk3 hk4 hee
            go_wp2_with fail
            refine (hg.out _).mono ?_
            rintro r w2 ⟨rfl, rfl⟩
            go_wp2_with fail
            refine bodyPost_ret (v := .tuple #[lv noLet, .int .i64 (e : Int)]) (by simp [results, Try.results48, go_sem, r0, r1, r2, r3]) rfl ⟨by rw [← hres.out], ?_⟩
            exact D.no
      · rw [if_pos hm] at hG
        have hme : ((t.extract 0 4).toList == [68, 87, 76, 1]) = false := by
          have h := str_ne hm
          rw [ByteArray.toList_eq (bs := ⟨#[68, 87, 76, 1]⟩)] at h
          exact h
        have hres : Hid ((noLet, (10 : Int)) = G) := hG
        clear hG hm
        go_enter Try.func48, Try.ntmps48
        go_wp2_with fail
        refine (hO.out _).mono ?_
        rintro r w1 ⟨rfl, hb1⟩
        obtain ⟨r0, r1, r2, r3, fr, n0, n1, n2, n3⟩ := made_two W w1 _ _ _ _ _ _ _ _ _ _ hb1
        go_wp2_with fail
        refine bodyPost_ret (v := .tuple #[lv noLet, .int .i64 10]) (by simp [results, Try.results48, go_sem, r0, r1, r2, r3]) rfl ⟨by rw [← hres.out], ?_⟩
        exact ((((bthen (balloc (balloc0 _ _) _) hb1).setCell (by simp) _).setCell (by simp) _).setCell (by simp) _).setCell (by simp) _
  · rw [if_pos he] at hG
    have he2 : (e != 0) = true := by simpa using he
    have hres : Hid ((noLet, e) = G) := hG
    clear hG he
    go_enter Try.func48, Try.ntmps48
    go_wp2_with fail
    refine (hO.out _).mono ?_
    rintro r w1 ⟨rfl, hb1⟩
    obtain ⟨r0, r1, r2, r3, fr, n0, n1, n2, n3⟩ := made_two W w1 _ _ _ _ _ _ _ _ _ _ hb1
    go_wp2_with fail
    refine bodyPost_ret (v := .tuple #[lv noLet, .int .i64 e]) (by simp [results, Try.results48, go_sem, r0, r1, r2, r3]) rfl ⟨by rw [← hres.out], ?_⟩
    exact ((((bthen (balloc (balloc0 _ _) _) hb1).setCell (by simp) _).setCell (by simp) _).setCell (by simp) _).setCell (by simp) _
end Go.Proofs.Ytclndbaafibaiaa

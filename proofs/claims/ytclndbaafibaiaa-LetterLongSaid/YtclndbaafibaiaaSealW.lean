/- The walks of layer 23: each function of the packages seal and dewpondref23, once, by what it computes. By the prover of this repo. -/
import Derived.Test.YtclndbaafibaiaaBase
import Derived.Test.YtclndbaafibaiaaSealM
namespace Go.Proofs.Ytclndbaafibaiaa
open Go.RowKit
open SealM

/-- A sum as a value. -/
abbrev sv (s : Int × Int) : Value := .agg #[.int .i64 s.1, .int .i64 s.2]

theorem seal_begin (w : World) : Calls Try.prog 16 #[] w fun e w' => e = .returned (.agg #[.int .i64 1, .int .i64 0]) ∧ Below w.heap.size w w' := by
  go_enter Try.func16, Try.ntmps16
  go_wp2
  exact bodyPost_ret (v := .agg #[.int .i64 1, .int .i64 0]) (by simp [results, Try.results16, go_sem]) rfl ⟨rfl, (Below.refl _ _).alloc (Nat.le_refl _) _⟩
/-- Four bytes made a string. -/
theorem four_bytes {P : Program} (w : World) (g : Nat) (hg : g = w.heap.size) (src dst e : TypeId) (cap : Nat) (x0 x1 x2 x3 : Int) (hs : P.underlying src = some (.slice e)) (he : P.underlying e = some (.int .u8)) (hd : P.underlying dst = some .string)
    (h0 : 0 ≤ x0 ∧ x0 ≤ 255) (h1 : 0 ≤ x1 ∧ x1 ≤ 255) (h2 : 0 ≤ x2 ∧ x2 ≤ 255) (h3 : 0 ≤ x3 ∧ x3 ≤ 255) :
    (convert src dst (.slice (some ⟨g, 0, none⟩) 4 cap)).run P (w.alloc (.cells #[.int .u8 x0, .int .u8 x1, .int .u8 x2, .int .u8 x3] e)) =
      .ok (.string ⟨#[UInt8.ofNat x0.toNat, UInt8.ofNat x1.toNat, UInt8.ofNat x2.toNat, UInt8.ofNat x3.toNat]⟩) (w.alloc (.cells #[.int .u8 x0, .int .u8 x1, .int .u8 x2, .int .u8 x3] e)) := by
  subst hg
  have h := run_convert_bytes_back (P := P) (w.alloc (.cells #[.int .u8 x0, .int .u8 x1, .int .u8 x2, .int .u8 x3] e)) src dst e ⟨w.heap.size, 0, none⟩ cap
    [UInt8.ofNat x0.toNat, UInt8.ofNat x1.toNat, UInt8.ofNat x2.toNat, UInt8.ofNat x3.toNat] hs he hd (by
      intro j hj
      have hadd : (⟨w.heap.size, 0, none⟩ : Addr).add j = ⟨w.heap.size, j, none⟩ := by unfold Addr.add; split <;> simp_all
      rw [hadd, World.cell?_alloc_at _ _ _ _ rfl]
      match j, hj with
      | 0, _ => simp; omega
      | 1, _ => simp; omega
      | 2, _ => simp; omega
      | 3, _ => simp; omega)
  exact h

theorem ref_bytes (s : Int × Int) (w : World) (hs : In s) : Calls Try.prog 21 #[.int .i64 s.1, .int .i64 s.2] w fun e w' => e = .returned (.string (sumStr s)) ∧ Below w.heap.size w w' := by
  obtain ⟨lo, hi⟩ := s
  obtain ⟨h0, h1, h2, h3⟩ := hs
  simp only at h0 h1 h2 h3
  have hcv := four_bytes (P := Try.prog) w _ rfl 41 9 5 4 (hi / 256) (hi % 256) (lo / 256) (lo % 256) Try.underlying41 Try.underlying5 Try.underlying9 (by omega) (by omega) (by omega) (by omega)
  go_enter Try.func21, Try.ntmps21
  go_wp2_with fail
  go_ret
  exact ⟨rfl, (Below.refl _ _).alloc (Nat.le_refl _) _⟩

theorem seal_bytes (s : Int × Int) (w : World) (hs : In s) : Calls Try.prog 20 #[sv s] w fun e w' => e = .returned (.string (sumStr s)) ∧ Below w.heap.size w w' := by
  obtain ⟨lo, hi⟩ := s
  obtain ⟨h0, h1, h2, h3⟩ := hs
  simp only at h0 h1 h2 h3
  have hcv := four_bytes (P := Try.prog) (w.alloc (.cells #[.int .i64 lo, .int .i64 hi] 25)) (w.heap.size + 1) (by simp) 41 9 5 4 (hi / 256) (hi % 256) (lo / 256) (lo % 256) Try.underlying41 Try.underlying5 Try.underlying9 (by omega) (by omega) (by omega) (by omega)
  go_enter Try.func20, Try.ntmps20
  go_wp2_with fail
  go_ret
  exact ⟨rfl, ((Below.refl _ _).alloc (Nat.le_refl _) _).alloc (by simp) _⟩

set_option maxHeartbeats 400000 in
theorem ref_more (s : Int × Int) (t : ByteArray) (w : World) (hs : In s) (ht : t.size ≤ maxLen) :
    Calls Try.prog 61 #[.int .i64 s.1, .int .i64 s.2, .string t] w fun e w' => e = .returned (.tuple #[.int .i64 (more s t.data.toList).1, .int .i64 (more s t.data.toList).2]) ∧ w = w' := by
  unfold maxLen at ht
  go_enter Try.func61, Try.ntmps61
  go_wp2
  go_loop [0, 1, 8] (fun a b i => ∃ k : Nat, k ≤ t.size ∧ i = .int .i64 k ∧ a = .int .i64 (more s (t.data.toList.take k)).1 ∧ b = .int .i64 (more s (t.data.toList.take k)).2) (fun _ _ i => t.size - (intOf i).toNat)
  case atStart => exact ⟨0, Nat.zero_le _, rfl, rfl, rfl⟩
  case round =>
    obtain ⟨k, hk, rfl, rfl, rfl⟩ := hrel
    have hu := more_in (t.data.toList.take k) s hs
    have hsn := hide (take_snoc t k)
    have hal := hide (take_all t k)
    generalize hmm : more s (t.data.toList.take k) = u at *
    have HU := hide hmm
    clear hmm
    obtain ⟨x, y⟩ := u
    obtain ⟨u1, u2, u3, u4⟩ := hu
    simp only at u1 u2 u3 u4 ⊢
    by_cases hlt : k < t.size
    · have hb := byte_lt t[k]
      go_wp2
      go_round
      case rel =>
        refine ⟨k + 1, by omega, by go_num, ?_⟩
        rw [hsn.out hlt, more_snoc, HU.out]
        exact ⟨rfl, rfl⟩
      case measure => simp [intOf]; omega
    · go_wp2
      go_ret2
      have h2 := HU.out
      rw [hal.out hlt] at h2
      exact ⟨ret2 (int_congr (by rw [h2])) (int_congr (by rw [h2])), rfl⟩

theorem ref_of (t : ByteArray) (w : World) (ht : t.size ≤ maxLen) :
    Calls Try.prog 50 #[.string t] w fun e w' => e = .returned (.tuple #[.int .i64 (SealM.of t.data.toList).1, .int .i64 (SealM.of t.data.toList).2]) ∧ w = w' := by
  go_enter Try.func50, Try.ntmps50
  go_wp2_with (go_at_call 61; refine (ref_more one t _ one_in ht).mono ?_; rintro e w' ⟨rfl, rfl⟩)
  go_ret2
  exact ⟨rfl, rfl⟩

/-- What a text's sum is as a value. -/
def ofV (t : ByteArray) : Value := sv (SealM.of t.data.toList)

theorem law_sum (t : ByteArray) (w : World) (ht : t.size ≤ maxLen) :
    Calls Try.prog 18 #[.string t] w fun e w' => e = .returned (sv (SealM.of t.data.toList)) ∧ Below w.heap.size w w' := by
  go_enter Try.func18, Try.ntmps18
  go_wp2_with (go_at_call 50; refine (ref_of t _ ht).mono ?_; rintro e w' ⟨rfl, rfl⟩)
  exact bodyPost_ret (v := sv (SealM.of t.data.toList)) (by simp [results, Try.results18, go_sem, sv]) rfl ⟨rfl, (Below.refl _ _).alloc (Nat.le_refl _) _⟩

set_option maxHeartbeats 800000 in
theorem seal_more (s : Int × Int) (t : ByteArray) (w : World) (hs : In s) (ht : t.size ≤ maxLen) :
    Calls Try.prog 17 #[sv s, .string t] w fun e w' => e = .returned (sv (more s t.data.toList)) ∧ Below w.heap.size w w' := by
  unfold maxLen at ht
  go_enter Try.func17, Try.ntmps17
  go_wp2
  go_loopw [1] (fun x wr => ∃ (r : ByteArray) (u : Int × Int), x = .string r ∧ r.size ≤ 9223372036854775807 ∧ In u ∧ Hid (more u r.data.toList = more s t.data.toList) ∧ Blk wr w.heap.size 25 #[.int .i64 u.1, .int .i64 u.2] ∧ Blk wr (w.heap.size + 1) 25 #[.int .i64 0, .int .i64 0] ∧ Below w.heap.size w wr)
    (fun x _ => strLen x)
  case atStart =>
    refine ⟨t, s, rfl, by omega, hs, rfl, ?_, ?_, ?_⟩
    · exact (Blk.made _ _ _).alloc _
    · exact Blk.made_at _ _ _ (by simp)
    · exact ((Below.refl _ _).alloc (Nat.le_refl _) _).alloc (by simp) _
  case round =>
    obtain ⟨r, u, rfl, hr, hu, hm, hb0, hb1, hbel⟩ := hrel
    by_cases h0 : 0 < r.size
    · go_upto_region 2 with (fail)
      go_cut [5] from 7 to 42 (fun n w2 => w2 = wr ∧ ∃ k : Nat, n = .int .i64 k ∧ 0 < k ∧ k ≤ 5000 ∧ k ≤ r.size)
      case first =>
        go_wp2
        all_goals go_meet
        case rel => exact ⟨rfl, 5000, rfl, by omega, by omega, by omega⟩
        case rel => exact ⟨rfl, r.size, rfl, by omega, by omega, by omega⟩
      case rest =>
        obtain ⟨rfl, n, rfl, hn0, hn1, hn2⟩ := hcut
        go_wp2
        obtain ⟨a0, b0⟩ := u
        simp only at hb0
        go_loopw [14] (fun i w2 => ∃ k : Nat, k ≤ n ∧ i = .int .i64 k ∧ Blk w2 w.heap.size 25 #[.int .i64 (raw (a0, b0) (r.data.toList.take k)).1, .int .i64 (raw (a0, b0) (r.data.toList.take k)).2] ∧ Blk w2 (w.heap.size + 1) 25 #[.int .i64 0, .int .i64 0] ∧ Below w.heap.size w w2)
          (fun i _ => n - (intOf i).toNat)
        case atStart => exact ⟨0, by omega, rfl, hb0, hb1, hbel⟩
        case round =>
          clear hb0 hb1 hbel
          obtain ⟨k, hk, rfl, hb0, hb1, hbel⟩ := hrel
          have hbd := raw_bd5 (a0, b0) hu (r.data.toList.take k) (by rw [List.length_take]; omega)
          have hsn := hide (take_snoc r k)
          generalize hmm : raw (a0, b0) (r.data.toList.take k) = v at *
          have HU := hide hmm
          clear hmm
          obtain ⟨x, y⟩ := v
          simp only at hbd hb0
          obtain ⟨u1, u2, u3, u4⟩ := hbd
          have c0 := hb0.cell 0
          have c1 := hb0.cell 1
          have f0 := hb0.free 0
          have f1 := hb0.free 1
          simp only [List.getElem?_toArray, List.getElem?_cons_zero, List.getElem?_cons_succ] at c0 c1
          by_cases hlt : k < n
          · have hkr : k < r.size := by omega
            have hb := byte_lt r[k]
            go_wp2
            go_region
            go_wp2
            go_roundw
            case rel =>
              refine ⟨k + 1, by omega, by go_num, ?_, (hb1.off (by simp) _).off (by simp) _, ((hbel.setCell (by simp) _).setCell (by simp) _).drew⟩
              rw [hsn.out hkr, raw_snoc, HU.out]
              exact (hb0.set 0 _).set 1 _
            case measure => simp [intOf]; omega
          · have hkn : n = k := by omega
            have HK := hide hkn
            clear hkn
            go_wp2
            go_roundw
            case rel =>
              have hkn := HK.out
              have hd := extract_drop r n
              have hmr := more_of_raw_in (r.data.toList.take n) (a0, b0) hu
              have hkn' : r.data.toList.take n = r.data.toList.take k := by rw [hkn]
              rw [hkn', HU.out] at hmr
              simp only at hmr
              refine ⟨r.extract n r.size, (x % 65521, y % 65521), rfl, by simp; omega, ?_, ?_, (hb0.set 0 _).set 1 _, (hb1.off (by simp) _).off (by simp) _, (hbel.setCell (by simp) _).setCell (by simp) _⟩
              · unfold In; simp only; omega
              · show more _ _ = _
                rw [hd, ← hmr, ← more_append, ← hkn', List.take_append_drop]
                exact hm.out
            case measure => simp [strLen]; omega
    · have hr0 := nil_of_size r h0
      have c0 := hb0.cell 0
      have c1 := hb0.cell 1
      have d0 := hb1.cell 0
      have d1 := hb1.cell 1
      have f0 := hb1.free 0
      have f1 := hb1.free 1
      simp only [List.getElem?_toArray, List.getElem?_cons_zero, List.getElem?_cons_succ] at c0 c1 d0 d1
      have HR := hide hr0
      clear hr0
      go_wp2
      have e := hm.out
      rw [HR.out, more_nil] at e
      rw [← e]
      refine bodyPost_ret (v := sv u) (by simp [results, Try.results17, go_sem, sv, d0, d1]) rfl ⟨rfl, ?_⟩
      exact (hbel.setCell (by simp) _).setCell (by simp) _
set_option maxHeartbeats 800000 in
theorem seal_of (a : Option Addr) (n c : Nat) (ss : Nat → ByteArray) (w : World) (hr : Rd w a n 1 (fun i => .string (ss i))) (hn : n ≤ maxLen) (hs : ∀ i, i < n → (ss i).size ≤ maxLen) :
    Calls Try.prog 19 #[.slice a n c] w fun e w' => e = .returned (sv (SealM.of (cat ss n))) ∧ Below w.heap.size w w' := by
  unfold maxLen at hn
  go_enter Try.func19, Try.ntmps19
  go_wp2_with fail
  refine (seal_begin _).mono ?_
  rintro e w1 ⟨rfl, hb1⟩
  have hz1 := hb1.size
  simp only [World.size_alloc] at hz1
  have hbl := (Blk.made w 25 #[.int .i64 0, .int .i64 0]).kept hb1
  go_wp2_with fail
  go_loopw [9] (fun i wr => ∃ k : Nat, k ≤ n ∧ i = .int .i64 k ∧ Blk wr w.heap.size 25 #[.int .i64 0, .int .i64 0] ∧ Blk wr w1.heap.size 25 #[.int .i64 (SealM.of (cat ss k)).1, .int .i64 (SealM.of (cat ss k)).2] ∧ Below w.heap.size w wr)
    (fun i _ => n - (intOf i).toNat)
  case atStart =>
    exact ⟨0, by omega, rfl, hbl.alloc _, Blk.made _ _ _, (((Below.refl _ _).alloc (Nat.le_refl _) _).trans (hb1.mono (by simp))).alloc (by omega) _⟩
  case round =>
    clear hbl
    obtain ⟨k, hk, rfl, hbl, hb2, hbel⟩ := hrel
    have hin := of_in (cat ss k)
    have c0 := hb2.cell 0
    have c1 := hb2.cell 1
    have f0 := hb2.free 0
    have f1 := hb2.free 1
    have d0 := hbl.cell 0
    have d1 := hbl.cell 1
    have g0 := hbl.free 0
    have g1 := hbl.free 1
    simp only [List.getElem?_toArray, List.getElem?_cons_zero, List.getElem?_cons_succ] at c0 c1 d0 d1
    by_cases hlt : k < n
    · obtain ⟨b, off, rfl, hb, hc⟩ := (hr.kept hbel) (by omega)
      have hck := hc k (by omega)
      have hsz := hide (hs k hlt)
      clear hc hs
      go_wp2_with fail
      refine (seal_more (SealM.of (cat ss k)) (ss k) _ hin hsz.out).mono ?_
      rintro e w2 ⟨rfl, hb3⟩
      have hbl2 := hbl.kept hb3
      have hb22 := hb2.kept hb3
      have hz3 := hb3.size
      have c0 := hb22.cell 0
      have c1 := hb22.cell 1
      have f0 := hb22.free 0
      have f1 := hb22.free 1
      simp only [List.getElem?_toArray, List.getElem?_cons_zero, List.getElem?_cons_succ] at c0 c1
      clear hck hsz
      go_wp2_with fail
      go_roundw
      case rel =>
        refine ⟨k + 1, by omega, by go_num, (hbl2.off (by simp; omega) _).off (by simp; omega) _, ?_, ((hbel.trans (hb3.mono hbel.size)).setCell (by simp; omega) _).setCell (by simp; omega) _⟩
        have e : SealM.of (cat ss (k + 1)) = more (SealM.of (cat ss k)) (ss k).data.toList := more_append _ _ _
        rw [e]
        exact (hb22.set 0 _).set 1 _
      case measure => simp [intOf]; omega
    · have hkn : n = k := by omega
      subst hkn
      go_wp2_with fail
      refine bodyPost_ret (v := sv (SealM.of (cat ss n))) (by simp [results, Try.results19, go_sem, sv, d0, d1]) rfl ⟨rfl, ?_⟩
      exact (hbel.setCell (by simp) _).setCell (by simp) _
/-- The sum of one text, out of the slice that holds it alone. -/
theorem seal_of1 (t : ByteArray) (g c : Nat) (w : World) (h : Blk w g 9 #[.string t]) (ht : t.size ≤ maxLen) :
    Calls Try.prog 19 #[.slice (some ⟨g, 0, none⟩) 1 c] w fun e w' => e = .returned (sv (SealM.of t.data.toList)) ∧ Below w.heap.size w w' := by
  have hr : Rd w (some ⟨g, 0, none⟩) 1 1 (fun _ => .string t) := Rd.of_blk h 0 (Nat.le_refl _) (by intro i hi; have h0 : i = 0 := (by omega); subst h0; rfl)
  exact seal_of (some ⟨g, 0, none⟩) 1 c (fun _ => t) w hr (by unfold maxLen; omega) (fun _ _ => ht)

theorem seal_seal (t : ByteArray) (w : World) (ht : t.size ≤ 140737488355327) :
    Calls Try.prog 25 #[.string t] w fun e w' => e = .returned (.string (sealed t)) ∧ Below w.heap.size w w' := by
  have hin := of_in t.data.toList
  have hlen := sumStr_size (SealM.of t.data.toList)
  go_enter Try.func25, Try.ntmps25
  go_wp2_with fail
  refine (seal_of1 t _ _ _ (Blk.made _ _ _) (by unfold maxLen; omega)).mono ?_
  rintro e w1 ⟨rfl, hb1⟩
  go_wp2_with fail
  refine (seal_bytes _ _ hin).mono ?_
  rintro e w2 ⟨rfl, hb2⟩
  go_wp2_with fail
  go_ret
  refine ⟨rfl, ?_⟩
  exact ((Below.refl _ _).alloc (Nat.le_refl _) _).trans ((hb1.mono (by simp)).trans (hb2.mono (by have := hb1.size; simp at this; omega)))

theorem ref_seal (t : ByteArray) (w : World) (ht : t.size ≤ 140737488355327) :
    Calls Try.prog 26 #[.string t] w fun e w' => e = .returned (.string (sealed t)) ∧ Below w.heap.size w w' := by
  have hin := of_in t.data.toList
  have hlen := sumStr_size (SealM.of t.data.toList)
  go_enter Try.func26, Try.ntmps26
  go_wp2_with fail
  refine (ref_of t _ (by unfold maxLen; omega)).mono ?_
  rintro e w1 ⟨rfl, rfl⟩
  go_wp2_with fail
  refine (ref_bytes _ _ hin).mono ?_
  rintro e w2 ⟨rfl, hb2⟩
  go_wp2_with fail
  go_ret
  exact ⟨rfl, hb2⟩

theorem seal_join (s t : Int × Int) (n : Int) (w : World) (hs : In s) (ht : In t) (h0 : 0 ≤ n) (h1 : n ≤ 9223372036854775807) :
    Calls Try.prog 22 #[sv s, sv t, .int .i64 n] w fun e w' => e = .returned (sv ((s.1 + t.1 + 65520) % 65521, (s.2 + t.2 + n % 65521 * (s.1 + 65520)) % 65521)) ∧ Below w.heap.size w w' := by
  obtain ⟨a, b⟩ := s
  obtain ⟨c, d⟩ := t
  obtain ⟨s1, s2, s3, s4⟩ := hs
  obtain ⟨t1, t2, t3, t4⟩ := ht
  simp only at s1 s2 s3 s4 t1 t2 t3 t4
  obtain ⟨p, hp, hp0, hp1⟩ : ∃ p : Int, p = n % 65521 * (a + 65521 - 1) ∧ 0 ≤ p ∧ p ≤ 65520 * 131041 := by
    refine ⟨_, rfl, Int.mul_nonneg (by omega) (by omega), ?_⟩
    exact Int.mul_le_mul (by omega) (by omega) (by omega) (by omega)
  go_enter Try.func22, Try.ntmps22
  go_wp2_with fail
  refine bodyPost_ret (v := sv ((a + c + 65521 - 1) % 65521, (b + d + n % 65521 * (a + 65521 - 1)) % 65521)) (by simp [results, Try.results22, go_sem, sv]) rfl ⟨?_, (((Below.refl _ _).alloc (Nat.le_refl _) _).alloc (by simp) _).alloc (by simp; omega) _⟩
  rw [show a + c + 65521 - 1 = a + c + 65520 by omega, show a + 65521 - 1 = a + 65520 by omega]
theorem seal_join_neg (s t : Int × Int) (n : Int) (w : World) (hs : In s) (ht : In t) (h0 : n < 0) (_h1 : -9223372036854775808 ≤ n) :
    Calls Try.prog 22 #[sv s, sv t, .int .i64 n] w fun e w' => e = .returned (sv ((s.1 + t.1 + 65520) % 65521, (s.2 + t.2) % 65521)) ∧ Below w.heap.size w w' := by
  obtain ⟨a, b⟩ := s
  obtain ⟨c, d⟩ := t
  obtain ⟨s1, s2, s3, s4⟩ := hs
  obtain ⟨t1, t2, t3, t4⟩ := ht
  simp only at s1 s2 s3 s4 t1 t2 t3 t4
  go_enter Try.func22, Try.ntmps22
  go_wp2_with fail
  refine bodyPost_ret (v := sv ((a + c + 65521 - 1) % 65521, (b + d) % 65521)) (by simp [results, Try.results22, go_sem, sv]) rfl ⟨?_, (((Below.refl _ _).alloc (Nat.le_refl _) _).alloc (by simp) _).alloc (by simp; omega) _⟩
  rw [show a + c + 65521 - 1 = a + c + 65520 by omega]

/-- With no bytes behind. -/
theorem seal_join_none (s : Int × Int) (n : Int) (w : World) (hs : In s) (h0 : n ≤ 0) (h1 : -9223372036854775808 ≤ n) :
    Calls Try.prog 22 #[sv s, sv one, .int .i64 n] w fun e w' => e = .returned (sv s) ∧ Below w.heap.size w w' := by
  have e1 : (s.1 + one.1 + 65520) % 65521 = s.1 := by unfold In at hs; show (s.1 + 1 + 65520) % 65521 = s.1; omega
  have e2 : (s.2 + one.2) % 65521 = s.2 := by unfold In at hs; show (s.2 + 0) % 65521 = s.2; omega
  by_cases h : n < 0
  · refine (seal_join_neg s one n w hs one_in h h1).mono ?_
    rw [e1, e2]
    exact fun _ _ h => h
  · obtain rfl : n = 0 := by omega
    refine (seal_join s one 0 w hs one_in (by omega) (by omega)).mono ?_
    rw [show (s.2 + one.2 + 0 % 65521 * (s.1 + 65520)) = s.2 + one.2 by omega, e1, e2]
    exact fun _ _ h => h

theorem of_a : SealM.of [97] = (98, 98) := by decide
theorem sealed_a : sealed ⟨#[97]⟩ = ⟨#[97, 0, 98, 0, 98]⟩ := by decide +kernel

theorem alive23 (w : World) : Calls Try.prog 15 #[] w fun e w' => e = .returned (.bool true) ∧ Below w.heap.size w w' := by
  go_enter Try.func15, Try.ntmps15
  go_wp2_with fail
  refine (seal_of1 ⟨#[97]⟩ _ _ _ (Blk.made _ _ _) (by decide)).mono ?_
  rw [show (⟨#[97]⟩ : ByteArray).data.toList = [97] from rfl, of_a]
  rintro e w1 ⟨rfl, hb1⟩
  go_wp2_with fail
  refine (seal_seal ⟨#[97]⟩ _ (by decide)).mono ?_
  rw [sealed_a]
  rintro e w2 ⟨rfl, hb2⟩
  go_wp2_with fail
  go_ret
  refine ⟨rfl, ?_⟩
  exact ((Below.refl _ _).alloc (Nat.le_refl _) _).trans ((hb1.mono (by simp)).trans (hb2.mono (by have := hb1.size; simp at this; omega)))

theorem seal_open_short (x : ByteArray) (w : World) (hx : x.size < 4) : Calls Try.prog 23 #[.string x] w fun e w' => e = .returned (.tuple #[.string ⟨#[]⟩, .int .i64 9]) ∧ w = w' := by
  go_enter Try.func23, Try.ntmps23
  go_wp2_with fail
  go_ret2
  exact ⟨rfl, rfl⟩

set_option maxHeartbeats 400000 in
theorem seal_open_yes (x : ByteArray) (w : World) (hx : 4 ≤ x.size) (hs : x.size ≤ maxLen) (hy : sumStr (SealM.of (x.data.toList.take (x.size - 4))) = x.extract (x.size - 4) x.size) :
    Calls Try.prog 23 #[.string x] w fun e w' => e = .returned (.tuple #[.string (x.extract 0 (x.size - 4)), .int .i64 0]) ∧ Below w.heap.size w w' := by
  unfold maxLen at hs
  have HY := hide hy
  clear hy
  have hto : ((x.size : Int) - 4).toNat = x.size - 4 := by omega
  go_enter Try.func23, Try.ntmps23
  go_wp2_with fail
  go_region_with (first
    | (go_at_call 19; refine (seal_of1 _ _ _ _ (Blk.made _ _ _).drew ?_).mono ?_; (simp [maxLen]; omega); rintro e w1 ⟨rfl, hb1⟩)
    | (go_at_call 20; refine (seal_bytes _ _ (of_in _)).mono ?_; rw [HY.out]; rintro e w2 ⟨rfl, hb2⟩))
  all_goals
    go_wp2_with fail
    go_ret2
    refine ⟨rfl, ?_⟩
    exact ((Below.refl _ _).alloc (Nat.le_refl _) _).drew.trans ((hb1.mono (by simp)).trans (hb2.mono (by have := hb1.size; simp at this; omega)))

set_option maxHeartbeats 400000 in
theorem seal_open_no (x : ByteArray) (w : World) (hx : 4 ≤ x.size) (hs : x.size ≤ maxLen) (hy : ¬ sumStr (SealM.of (x.data.toList.take (x.size - 4))) = x.extract (x.size - 4) x.size) :
    Calls Try.prog 23 #[.string x] w fun e w' => e = .returned (.tuple #[.string ⟨#[]⟩, .int .i64 12]) ∧ Below w.heap.size w w' := by
  unfold maxLen at hs
  have hto : ((x.size : Int) - 4).toNat = x.size - 4 := by omega
  obtain ⟨y, hy2, hne⟩ : ∃ y : ByteArray, Hid (sumStr (SealM.of (x.data.toList.take (x.size - 4))) = y) ∧ (y.toList == (x.extract (x.size - 4) x.size).toList) = false := ⟨_, rfl, str_ne hy⟩
  clear hy
  go_enter Try.func23, Try.ntmps23
  go_wp2_with fail
  go_region_with (first
    | (go_at_call 19; refine (seal_of1 _ _ _ _ (Blk.made _ _ _).drew ?_).mono ?_; (simp [maxLen]; omega); rintro e w1 ⟨rfl, hb1⟩)
    | (go_at_call 20; refine (seal_bytes _ _ (of_in _)).mono ?_; rw [hy2.out]; rintro e w2 ⟨rfl, hb2⟩))
  all_goals
    go_wp2_with fail
    go_ret2
    refine ⟨rfl, ?_⟩
    exact ((Below.refl _ _).alloc (Nat.le_refl _) _).drew.trans ((hb1.mono (by simp)).trans (hb2.mono (by have := hb1.size; simp at this; omega)))

/-- What opening a text comes to. -/
def openRes (x : ByteArray) : ByteArray × Int :=
  if x.size < 4 then (⟨#[]⟩, 9)
  else if sumStr (SealM.of (x.data.toList.take (x.size - 4))) = x.extract (x.size - 4) x.size then (x.extract 0 (x.size - 4), 0) else (⟨#[]⟩, 12)

theorem seal_open (x : ByteArray) (w : World) (hs : x.size ≤ maxLen) :
    Calls Try.prog 23 #[.string x] w fun e w' => e = .returned (.tuple #[.string (openRes x).1, .int .i64 (openRes x).2]) ∧ Below w.heap.size w w' := by
  unfold openRes
  by_cases h1 : x.size < 4
  · rw [if_pos h1]
    exact (seal_open_short x w h1).mono fun e w' ⟨he, hw⟩ => ⟨he, hw ▸ Below.refl _ _⟩
  · rw [if_neg h1]
    by_cases h2 : sumStr (SealM.of (x.data.toList.take (x.size - 4))) = x.extract (x.size - 4) x.size
    · rw [if_pos h2]
      exact seal_open_yes x w (by omega) hs h2
    · rw [if_neg h2]
      exact seal_open_no x w (by omega) hs h2

theorem open_split (x : ByteArray) (hx : 4 ≤ x.size) : x = x.extract 0 (x.size - 4) ++ x.extract (x.size - 4) x.size := by
  apply str_ext
  rw [ByteArray.data_append, Array.toList_append, extract_take, extract_drop, List.take_append_drop]
theorem sealed_iff (x : ByteArray) (hx : 4 ≤ x.size) : sealed (x.extract 0 (x.size - 4)) = x ↔ sumStr (SealM.of (x.data.toList.take (x.size - 4))) = x.extract (x.size - 4) x.size := by
  have h := open_split x hx
  have e : sealed (x.extract 0 (x.size - 4)) = x.extract 0 (x.size - 4) ++ sumStr (SealM.of (x.data.toList.take (x.size - 4))) := by
    unfold sealed; rw [extract_take]
  rw [e]
  constructor
  · intro k
    apply str_ext
    have k2 := k.trans h
    have k3 := congrArg (fun b : ByteArray => b.data.toList) k2
    simp only [ByteArray.data_append, Array.toList_append] at k3
    exact List.append_cancel_left k3
  · intro k
    rw [k]
    exact h.symm

set_option maxHeartbeats 400000 in
theorem ref_open (x : ByteArray) (w : World) (hs : x.size ≤ 140737488355327) :
    Calls Try.prog 24 #[.string x] w fun e w' => e = .returned (.tuple #[.string (openRes x).1, .int .i64 (openRes x).2]) ∧ Below w.heap.size w w' := by
  unfold openRes
  by_cases h1 : x.size < 4
  · rw [if_pos h1]
    go_enter Try.func24, Try.ntmps24
    go_wp2_with fail
    go_ret2
    exact ⟨rfl, Below.refl _ _⟩
  · have hsi := sealed_iff x (by omega)
    rw [if_neg h1]
    have hsz : (x.extract 0 (x.size - 4)).size ≤ 140737488355327 := by simp; omega
    by_cases h2 : sumStr (SealM.of (x.data.toList.take (x.size - 4))) = x.extract (x.size - 4) x.size
    · rw [if_pos h2]
      have he := hide (hsi.2 h2)
      have hsz := hide hsz
      clear hsi h2
      go_enter Try.func24, Try.ntmps24
      go_wp2_with fail
      refine (ref_seal _ _ hsz.out).mono ?_
      rw [he.out]
      rintro e w1 ⟨rfl, hb1⟩
      go_wp2_with fail
      go_ret2
      exact ⟨rfl, hb1⟩
    · rw [if_neg h2]
      obtain ⟨y, hy, hne⟩ : ∃ y : ByteArray, Hid (sealed (x.extract 0 (x.size - 4)) = y) ∧ (y.toList == x.toList) = false := ⟨_, rfl, str_ne (fun k => h2 (hsi.1 k))⟩
      have hsz := hide hsz
      clear hsi h2
      go_enter Try.func24, Try.ntmps24
      go_wp2_with fail
      refine (ref_seal _ _ hsz.out).mono ?_
      rw [hy.out]
      rintro e w1 ⟨rfl, hb1⟩
      go_wp2_with fail
      go_ret2
      exact ⟨rfl, hb1⟩
end Go.Proofs.Ytclndbaafibaiaa

/- Part 51 of the proof: texts joined by this repo's tools/merge2.py (StrH). By the prover of this repo. -/
import Derived.Test.YteebghoijaaakaaGreatM49
import Derived.Deep.RegionHeld3
set_option linter.unusedVariables false
set_option linter.unusedSimpArgs false
/- The law TopStores: its walk. By the prover of this repo. -/
namespace Go.Proofs.YteebghoijaaakaaGreat
namespace CW
open Go.RowKit
open TwigM RollM StoM TopM

theorem Beg.all {w wr : World} {L q : Int} {ks : List Int} {n : Nat} {u z : Value} {d p : Nat → Nat} {Fs : Nat → Nat → Prop} (h : Beg w wr L q ks n n n u z d p Fs) {gd gb : Nat} (h1 : w.heap.size ≤ gd) (h2 : w.heap.size ≤ gb) : ∀ j, Al w.heap.size gd gb n d p (fun _ => .slice none 0 0) Fs j → w.heap.size ≤ j := by
  rintro j (rfl | rfl | rfl | ⟨i, hi, q | q | q | q⟩)
  · exact Nat.le_refl _
  · exact h1
  · exact h2
  · have := (h.low i hi).1; omega
  · have := (h.low i hi).2.1; omega
  · have := (h.low i hi).2.2 j q; omega
  · cases q
theorem begun_fit {L : Int} {ks : List Int} (hk : ∀ k ∈ ks, KOk k) : ∀ j, j < ks.length → Fit L (ks.getD j 0, ([], [])) := fun j hj => by
  have h1 : ks.getD j 0 = ks[j] := by rw [List.getD_eq_getElem?_getD, List.getElem?_eq_getElem hj]; rfl
  obtain ⟨a, b⟩ := hk _ (List.getElem_mem hj)
  rw [h1]
  exact ⟨a, b, Inv.nil a _⟩
/-- Both are begun. -/
theorem two_begun {w w1 w2 : World} {L : Int} {ks : List Int} {n : Nat} {u z u2 z2 : Value} {d p d2 p2 : Nat → Nat} {Fs Fs2 : Nat → Nat → Prop} (hn : 1 ≤ n) (h : Beg w w1 L 0 ks n n n u z d p Fs) (h2 : Beg w1 w2 L 1 ks n n n u2 z2 d2 p2 Fs2) :
    ∃ gd gb cd cb gd2 gb2 cd2 cb2, Two w w2 n L w.heap.size gd gb cd cb w1.heap.size gd2 gb2 cd2 cb2 (wayF 0) (wayF 1) (fun j => (ks.getD j 0, ([], []))) d p (fun _ => .slice none 0 0) Fs d2 p2 (fun _ => .slice none 0 0) Fs2 := by
  obtain ⟨gd, gb, cd, cb, hX, g1, g2⟩ := h.crowd hn
  obtain ⟨gd2, gb2, cd2, cb2, hX2, g3, g4⟩ := h2.crowd hn
  have l1 := hX.lt
  have a1 := h.all g1 g2
  have a2 := h2.all g3 g4
  have hz := h.bel.size
  exact ⟨gd, gb, cd, cb, gd2, gb2, cd2, cb2, hX.kept h2.bel, hX2, fun j hj hF => by have := l1 j hj; have := a2 j (ff_al hF); omega, fun j hj hF => by have := a2 j hj; have := l1 j (ff_al hF); omega, fun j hj => a1 j (ff_al hj), fun j hj => by have := a2 j (ff_al hj); omega, h.bel.trans (h2.bel.mono hz)⟩
set_option maxRecDepth 100000 in
set_option maxHeartbeats 8000000 in
theorem stores_main (L y : Int) (A B : Option Addr) (ca ch : Nat) (ks : List Int) (hs : List TopM.Hop) (w : World) (hr : Rd w A ks.length 1 fun j => .int .i64 (ks.getD j 0)) (hrh : Rd w B hs.length 5 (hpc hs))
    (hwfk : ∀ k ∈ ks, -9223372036854775808 ≤ k ∧ k ≤ 9223372036854775807) (hwfh : ∀ h ∈ hs, HopWf h) :
    Calls Tryz.prog 3 #[.int .i64 L, .int .i64 y, .slice A ks.length ca, .slice B hs.length ch] w fun e w' => e = .returned (.bool true) ∧ Below w.heap.size w w' := by
  have hF := hide (few_c L 100 A B ks.length ca hs.length ch w)
  have hAl := hide (fun W => top_alive W)
  by_cases hfw : fewB L ks.length hs.length 100 = true
  case neg =>
    rw [show fewB L ks.length hs.length 100 = false by simpa using hfw] at hF
    clear hr hrh hwfk hwfh hfw
    generalize ks.length = nk at *
    generalize hs.length = nh at *
    go_enter Tryz.func3, Tryz.ntmps3
    go_wp2_with fail
    refine Calls.mono hF.out ?_
    rintro e w1 ⟨rfl, rfl⟩
    go_wp2_with fail
    refine Calls.mono (hAl.out _) ?_
    rintro e w2 ⟨rfl, hb2⟩
    go_wp2_with fail
    go_ret
    exact ⟨rfl, hb2⟩
  obtain ⟨hL1, -, hn1, hn5, hh100⟩ : 1 ≤ L ∧ L ≤ 48 ∧ 1 ≤ ks.length ∧ ks.length ≤ 5 ∧ (hs.length : Int) ≤ 100 := of_decide_eq_true hfw
  rw [hfw] at hF
  clear hfw
  by_cases hL : L ≤ 10
  case neg =>
    have hL2 : decide (10 < L) = true := decide_eq_true (by omega)
    clear hr hrh hwfk hwfh
    generalize ks.length = nk at *
    generalize hs.length = nh at *
    go_enter Tryz.func3, Tryz.ntmps3
    go_wp2_with fail
    refine Calls.mono hF.out ?_
    rintro e w1 ⟨rfl, rfl⟩
    go_wp2_with fail
    refine Calls.mono (hAl.out _) ?_
    rintro e w2 ⟨rfl, hb2⟩
    go_wp2_with fail
    go_ret
    exact ⟨rfl, hb2⟩
  have hB1 := hide (begun_c L 0 A ca ks w hL1 hL (by omega) hr hn1 hn5 hwfk)
  have hB2 := hide (fun W (hW : Below w.heap.size w W) => begun_c L 1 A ca ks W hL1 hL (by omega) (hr.kept hW) hn1 hn5 hwfk)
  have hL2 : decide (10 < L) = false := decide_eq_false (by omega)
  have hrh0 := hide hrh
  have hfit := hide (fun (hk : ∀ k ∈ ks, KOk k) => begun_fit (L := L) hk)
  clear hr hrh
  obtain ⟨n, hn⟩ : ∃ n, Hid (ks.length = n) := ⟨_, rfl⟩
  obtain ⟨nh, hnh⟩ : ∃ nh, Hid (hs.length = nh) := ⟨_, rfl⟩
  rw [hn.out] at hB1 hB2 hF hn1 hn5 hfit ⊢
  rw [hnh.out] at hF hrh0 hh100 ⊢
  go_enter Tryz.func3, Tryz.ntmps3
  go_wp2_with fail
  refine Calls.mono hF.out ?_
  rintro e w1 ⟨rfl, rfl⟩
  go_wp2_with fail
  refine Calls.mono hB1.out ?_
  rintro e w1 ⟨hb1, (⟨rfl, hok, u, z, d, p, Fs, hg⟩ | rfl)⟩
  case inr =>
    have hb1 := hide hb1
    go_wp2_with fail
    refine Calls.mono (hB2.out w1 hb1.out) ?_
    rintro e w2 ⟨hb2, (⟨rfl, -, -⟩ | rfl)⟩
    all_goals
      have hb3 := hide (hb1.out.trans (hb2.mono hb1.out.size))
      clear hb2
      go_wp2_with fail
      refine Calls.mono (hAl.out _) ?_
      rintro e w3 ⟨rfl, hb4⟩
      go_wp2_with fail
      go_ret
      exact ⟨rfl, hb3.out.trans (hb4.mono hb3.out.size)⟩
  have hb1 := hide hb1
  have hg := hide hg
  go_wp2_with fail
  refine Calls.mono (hB2.out w1 hb1.out) ?_
  rintro e w2 ⟨hb2, (⟨rfl, -, u2, z2, d2, p2, Fs2, hg2⟩ | rfl)⟩
  case inr =>
    have hb3 := hide (hb1.out.trans (hb2.mono hb1.out.size))
    clear hb2
    go_wp2_with fail
    refine Calls.mono (hAl.out _) ?_
    rintro e w3 ⟨rfl, hb4⟩
    go_wp2_with fail
    go_ret
    exact ⟨rfl, hb3.out.trans (hb4.mono hb3.out.size)⟩
  obtain ⟨gd, gb, cd, cb, gd2, gb2, cd2, cb2, hT⟩ := two_begun hn1 hg.out hg2
  have hT := hide hT
  have hf0 := hide (hfit.out hok)
  clear hg hg2 hok hfit hB1 hB2 hF hb2
  obtain ⟨c, hc⟩ : ∃ c, w.heap.size = c := ⟨_, rfl⟩
  obtain ⟨c2, hc2⟩ : ∃ c2, w1.heap.size = c2 := ⟨_, rfl⟩
  go_wp2_with fail
  rw [hc, hc2] at hT
  have hE0 : Hid (∀ j, j < n → wayF 1 j = 3 - wayF 0 j) := fun j _ => by unfold wayF; omega
  clear hc hc2 hb1
  go_loopw [51] (fun kv wr => ∃ (i : Nat) (D E : Nat → Int) (s : Nat → DS) (d p : Nat → Nat) (v : Nat → Value) (Fs : Nat → Nat → Prop) (d2 p2 : Nat → Nat) (v2 : Nat → Value) (Fs2 : Nat → Nat → Prop), kv = .int .i64 i ∧ i ≤ nh ∧ Hid (Two w wr n L c gd gb cd cb c2 gd2 gb2 cd2 cb2 D E s d p v Fs d2 p2 v2 Fs2) ∧ Hid (∀ j, j < n → Fit L (s j)) ∧ Hid (∀ j, j < n → Kd (D j)) ∧ Hid (∀ j, j < n → E j = 3 - D j)) (fun kv _ => nh - (intOf kv).toNat)
  case atStart => exact ⟨0, _, _, _, _, _, _, _, _, _, _, _, rfl, by omega, hT, hf0, fun j hj => way_kd 0 j, hE0⟩
  case round =>
    clear hT hf0 hE0
    obtain ⟨i, D, E, s, d, p, v, Fs, d2, p2, v2, Fs2, rfl, hi, hT, hf, hkd, hE⟩ := hrel
    by_cases hlt : i < nh
    · have hil : i < hs.length := by rw [hnh.out]; exact hlt
      have hrd := hrh0.out.kept hT.out.bel
      rw [← hnh.out] at hrd
      obtain ⟨b, off, rfl, hb, x0, x1, x2, x3, x4⟩ := hop_at hrd hil
      have hwh := hwfh _ (List.getElem_mem hil)
      clear hrd
      generalize hs[i] = h at *
      obtain ⟨kk, on, oth, x, m⟩ := h
      simp only at x0 x1 x2 x3 x4
      obtain ⟨w0b, w1b, w2b, w3b, w4b⟩ := hwh
      simp only at w0b w1b w2b w3b w4b
      have r1 := at_rng on (n := n) (by omega)
      have r2 := at_rng oth (n := n) (by omega)
      obtain ⟨i0, hi0⟩ := Int.eq_ofNat_of_zero_le r1.1
      obtain ⟨k0, hk0⟩ := Int.eq_ofNat_of_zero_le r2.1
      have hi0n : i0 < n := by omega
      have hk0n : k0 < n := by omega
      have hi0 := hide hi0
      have hk0 := hide hk0
      have hT0 := hide (hT.out.kept (balloc0 wr (.cells #[.int .i64 kk, .int .i64 on, .int .i64 oth, .int .i64 x, .int .i64 m] 30)))
      have hBh := hide (Blk.made wr 30 #[.int .i64 kk, .int .i64 on, .int .i64 oth, .int .i64 x, .int .i64 m])
      have hla := hide (fun j hj => hT.out.a.lt j (ff_al hj))
      have hlb := hide (fun j hj => hT.out.b.lt j (ff_al hj))
      have hkE : Hid (∀ j, j < n → Kd (E j)) := fun j hj => by rw [hE.out j hj]; exact (hkd.out j hj).other
      have hbw := hBh.out.lt
      have hCa : Hid (∀ W, CrowdX W c gd gb n cd cb L D s d p v Fs → Calls Tryz.prog 7 #[.pointer (some ⟨c, 0, none⟩), .agg #[.int .i64 kk, .int .i64 on, .int .i64 oth, .int .i64 x, .int .i64 m]] W fun e W' => e = .returned (.bool true) ∧ ∃ dd pp vv FFs, CrowdX W' c gd gb n cd cb L (kdU D i0 kk) (up s i0 (TopM.oneF L (s i0) (s k0) (kk, on, oth, x, m))) dd pp vv FFs ∧ Hp W W' c gd gb n d p v Fs dd pp vv FFs) :=
        fun W hX => hop_c c gd gb n cd cb L D s d p v Fs W hX hL1 hL hn1 hn5 hf.out hkd.out (kk, on, oth, x, m) ⟨w0b, w1b, w2b, w3b, w4b⟩ i0 k0 hi0n hk0n hi0.out hk0.out
      have hCb : Hid (∀ W, CrowdX W c2 gd2 gb2 n cd2 cb2 L E s d2 p2 v2 Fs2 → Calls Tryz.prog 7 #[.pointer (some ⟨c2, 0, none⟩), .agg #[.int .i64 kk, .int .i64 on, .int .i64 oth, .int .i64 x, .int .i64 m]] W fun e W' => e = .returned (.bool true) ∧ ∃ dd pp vv FFs, CrowdX W' c2 gd2 gb2 n cd2 cb2 L (kdU E i0 kk) (up s i0 (TopM.oneF L (s i0) (s k0) (kk, on, oth, x, m))) dd pp vv FFs ∧ Hp W W' c2 gd2 gb2 n d2 p2 v2 Fs2 dd pp vv FFs) :=
        fun W hX => hop_c c2 gd2 gb2 n cd2 cb2 L E s d2 p2 v2 Fs2 W hX hL1 hL hn1 hn5 hf.out hkE.out (kk, on, oth, x, m) ⟨w0b, w1b, w2b, w3b, w4b⟩ i0 k0 hi0n hk0n hi0.out hk0.out
      have hf1 := hide (hop_fit1 hL1 hL hf.out (kk, on, oth, x, m) hi0n hk0n)
      have hkd1 := hide (kdU_kd hkd.out hi0n kk)
      have hE1 := hide (kdU_apart hE.out hi0n kk)
      clear hT hf hkd hE hkE
      go_wp2_with fail
      clear x0 x1 x2 x3 x4 hb
      generalize wr.alloc (.cells #[.int .i64 kk, .int .i64 on, .int .i64 oth, .int .i64 x, .int .i64 m] 30) = W0 at *
      generalize wr.heap.size = hb at *
      have s0 : W0.cell? ⟨hb, 0, none⟩ = some (.int .i64 kk) := hBh.out.cell 0
      have s1 : W0.cell? ⟨hb, 1, none⟩ = some (.int .i64 on) := hBh.out.cell 1
      have s2 : W0.cell? ⟨hb, 2, none⟩ = some (.int .i64 oth) := hBh.out.cell 2
      have s3 : W0.cell? ⟨hb, 3, none⟩ = some (.int .i64 x) := hBh.out.cell 3
      have s4 : W0.cell? ⟨hb, 4, none⟩ = some (.int .i64 m) := hBh.out.cell 4
      have hTd := hide (hT0.out.kept (Below.refl W0.heap.size W0).drew)
      have hBd := hide (hBh.out.kept (Below.refl W0.heap.size W0).drew)
      go_region_held3 (fun w' => w'.cell? ⟨hb, 0, none⟩ = some (.int .i64 kk) ∧ w'.cell? ⟨hb, 1, none⟩ = some (.int .i64 on) ∧ w'.cell? ⟨hb, 2, none⟩ = some (.int .i64 oth) ∧ w'.cell? ⟨hb, 3, none⟩ = some (.int .i64 x) ∧ w'.cell? ⟨hb, 4, none⟩ = some (.int .i64 m))
        (go_keep)
        (first
          | (go_at_call 7; (with_reducible refine (hCa.out _ hTd.out.a).mono ?_); rintro e w3 ⟨rfl, dd, pp, vv, FFs, hXa, hHa⟩; have hB3 := hBd.out.turned hHa.turn (fun q => by have := hla.out _ q; omega); have q0 : w3.cell? ⟨hb, 0, none⟩ = some (.int .i64 kk) := hB3.cell 0; have q1 : w3.cell? ⟨hb, 1, none⟩ = some (.int .i64 on) := hB3.cell 1; have q2 : w3.cell? ⟨hb, 2, none⟩ = some (.int .i64 oth) := hB3.cell 2; have q3 : w3.cell? ⟨hb, 3, none⟩ = some (.int .i64 x) := hB3.cell 3; have q4 : w3.cell? ⟨hb, 4, none⟩ = some (.int .i64 m) := hB3.cell 4; have q5 := hB3.lt; have hB3 := hide hB3; have hXa := hide hXa; have hXb3 := hide (hTd.out.other hHa); have hHa := hide hHa)
          | (go_at_call 7; (with_reducible refine (hCb.out _ hXb3.out).mono ?_); rintro e w4 ⟨rfl, dd2, pp2, vv2, FFs2, hXb, hHb⟩; have hB4 := hB3.out.turned hHb.turn (fun q => by have := hlb.out _ q; omega); have t0 : w4.cell? ⟨hb, 0, none⟩ = some (.int .i64 kk) := hB4.cell 0; have t1 : w4.cell? ⟨hb, 1, none⟩ = some (.int .i64 on) := hB4.cell 1; have t2 : w4.cell? ⟨hb, 2, none⟩ = some (.int .i64 oth) := hB4.cell 2; have t3 : w4.cell? ⟨hb, 3, none⟩ = some (.int .i64 x) := hB4.cell 3; have t4 : w4.cell? ⟨hb, 4, none⟩ = some (.int .i64 m) := hB4.cell 4; have t5 := hB4.lt; have hB4 := hide hB4; have hT4 := hide (hTd.out.both hXa.out hHa.out hXb hHb); clear hXb hHb))
      clear s0 s1 s2 s3 s4 q0 q1 q2 q3 q4 q5 hXa hHa hXb3 hB3 hTd hBd hT0 hBh hCa hCb hla hlb hbw
      have hA1 := fun (e : Later w4.heap.size w4) => at_c on n e.val (by omega) (by omega) w1b.1 w1b.2
      rw [hi0.out] at hA1
      replace hA1 := hide hA1
      generalize up s i0 (TopM.oneF L (s i0) (s k0) (kk, on, oth, x, m)) = sn at *
      generalize kdU D i0 kk = Dn at *
      generalize kdU E i0 kk = En at *
      have hlen := (hf1.out i0 hi0n).len
      have hkx : (Dn i0 == En i0) = false := by
        have h1 := hkd1.out i0 hi0n
        have h2 := hE1.out i0 hi0n
        rw [h2]
        unfold Kd at h1
        simp only [beq_eq_false_iff_ne, ne_eq]
        omega
      have hEa := hide (fun W (hW : Below w4.heap.size w4 W) => wire_encode (dd i0) (pp i0) (sn i0).1 (Dn i0) L (sn i0).2.1 (FFs i0) W ((hT4.out.kept hW).a.dig i0 hi0n) (by omega))
      have hEb := hide (fun W (hW : Below w4.heap.size w4 W) => wire_encode (dd2 i0) (pp2 i0) (sn i0).1 (En i0) L (sn i0).2.1 (FFs2 i0) W ((hT4.out.kept hW).b.dig i0 hi0n) (by omega))
      have hCo1 := hide (fun W (hW : Below w4.heap.size w4 W) => digest_conf (dd i0) (pp i0) (sn i0).1 (Dn i0) L (sn i0).2.1 (FFs i0) W ((hT4.out.kept hW).a.dig i0 hi0n))
      have hCo2 := hide (fun W (hW : Below w4.heap.size w4 W) => digest_conf (dd2 i0) (pp2 i0) (sn i0).1 (En i0) L (sn i0).2.1 (FFs2 i0) W ((hT4.out.kept hW).b.dig i0 hi0n))
      have hLo1 := hide (fun W (hW : Below w4.heap.size w4 W) => rank_low (dd i0) (pp i0) (sn i0).1 (Dn i0) L y (sn i0).2.1 (FFs i0) W ((hT4.out.kept hW).a.dig i0 hi0n))
      have hLo2 := hide (fun W (hW : Below w4.heap.size w4 W) => rank_low (dd2 i0) (pp2 i0) (sn i0).1 (En i0) L y (sn i0).2.1 (FFs2 i0) W ((hT4.out.kept hW).b.dig i0 hi0n))
      have hHi1 := hide (fun W (hW : Below w4.heap.size w4 W) => rank_high (dd i0) (pp i0) (sn i0).1 (Dn i0) L y (sn i0).2.1 (FFs i0) W ((hT4.out.kept hW).a.dig i0 hi0n))
      have hHi2 := hide (fun W (hW : Below w4.heap.size w4 W) => rank_high (dd2 i0) (pp2 i0) (sn i0).1 (En i0) L y (sn i0).2.1 (FFs2 i0) W ((hT4.out.kept hW).b.dig i0 hi0n))
      unfold conf at hCo1 hCo2
      have hfl1 : ∀ W : World, (Instr.field 42 (.agg #[.int .i64 L, .int .i64 (sn i0).1, .int .i64 (Dn i0)]) 2).run Tryz.prog W = .ok (.int .i64 (Dn i0)) W := fun _ => by kernel_rfl
      have hfl2 : ∀ W : World, (Instr.field 42 (.agg #[.int .i64 L, .int .i64 (sn i0).1, .int .i64 (En i0)]) 2).run Tryz.prog W = .ok (.int .i64 (En i0)) W := fun _ => by kernel_rfl
      generalize SealM.sealed (rawS L (sn i0).1 (sn i0).2.1) = Sx at *
      generalize lowS L y (sn i0).2.1 = vlo at *
      generalize highS L y (sn i0).2.1 = vhi at *
      generalize hxa : Dn i0 = xa at *
      generalize hxb : En i0 = xb at *
      clear hxa hxb hlen
      have hKT := hide (fun W (hW : Below w4.heap.size w4 W) => hT4.out.kept hW)
      obtain ⟨z0, -, z1, z2, -, z3, -, -, -, -, -⟩ := hT4.out.a.cells hi0n
      go_wp2_with fail
      refine wp_region_later (by kernel_rfl) (by kernel_rfl) ?_
      repeat (go_big_quiet_step (first
        | (go_at_call 8; (with_reducible exact calls_later_same (hA1.out _)))
        | exact rfl))
      refine wpQuiet_nil ?_
      rintro _ ⟨e5, rfl⟩
      have hb5 := hide e5.property
      generalize e5.val = w5 at *
      clear e5 z0 z1 z2 z3 hA1 t0 t1 t2 t3 t4 t5 hB4
      obtain ⟨z0, -, z1, z2, -, z3, -, -, -, -, -⟩ := (hKT.out w5 hb5.out).a.cells hi0n
      go_wp2_with fail
      refine Calls.mono (hEa.out w5 hb5.out) ?_
      rintro e w6 ⟨rfl, hb6⟩
      have hb6 := hide (hb5.out.trans (hb6.mono hb5.out.size))
      clear z0 z1 z2 z3
      obtain ⟨z0, -, z1, z2, -, z3, -, -, -, -, -⟩ := (hKT.out w6 hb6.out).b.cells hi0n
      go_wp2_with fail
      refine Calls.mono (hEb.out w6 hb6.out) ?_
      rintro e w7 ⟨rfl, hb7⟩
      have hb7 := hide (hb6.out.trans (hb7.mono hb6.out.size))
      clear z0 z1 z2 z3 hEa hEb
      obtain ⟨z0, -, z1, z2, -, z3, -, -, -, -, -⟩ := (hKT.out w7 hb7.out).a.cells hi0n
      obtain ⟨y0, -, y1, y2, -, y3, -, -, -, -, -⟩ := (hKT.out w7 hb7.out).b.cells hi0n
      have lt7 := fun (e : Later w7.heap.size w7) => hb7.out.trans (e.property.mono hb7.out.size)
      have kCo1 := hide (fun (e : Later w7.heap.size w7) => hCo1.out e.val (lt7 e))
      have kCo2 := hide (fun (e : Later w7.heap.size w7) => hCo2.out e.val (lt7 e))
      have kLo1 := hide (fun (e : Later w7.heap.size w7) => hLo1.out e.val (lt7 e))
      have kLo2 := hide (fun (e : Later w7.heap.size w7) => hLo2.out e.val (lt7 e))
      have kHi1 := hide (fun (e : Later w7.heap.size w7) => hHi1.out e.val (lt7 e))
      have kHi2 := hide (fun (e : Later w7.heap.size w7) => hHi2.out e.val (lt7 e))
      clear hCo1 hCo2 hLo1 hLo2 hHi1 hHi2 lt7
      go_wp2_with fail
      refine wp_region_later (by kernel_rfl) (by kernel_rfl) ?_
      dsimp only [List.append]
      repeat (go_big_quiet_step (first
        | (go_at_call 10; (with_reducible exact calls_later (kCo1.out _)))
        | (go_at_call 10; (with_reducible exact calls_later (kCo2.out _)))
        | (go_at_call 11; (with_reducible exact calls_later (kLo1.out _)))
        | (go_at_call 11; (with_reducible exact calls_later (kLo2.out _)))
        | (go_at_call 12; (with_reducible exact calls_later (kHi1.out _)))
        | (go_at_call 12; (with_reducible exact calls_later (kHi2.out _)))
        | exact rfl))
      refine wpQuiet_nil ?_
      rintro _ ⟨e8, rfl⟩
      have hT8 := hide (hKT.out e8.val (hb7.out.trans (e8.property.mono hb7.out.size)))
      generalize e8.val = w8 at *
      clear e8 z0 z1 z2 z3 y0 y1 y2 y3 hKT hT4
      go_wp2_with fail
      go_roundw
      case rel => exact ⟨i + 1, _, _, _, _, _, _, _, _, _, _, _, by go_num, by omega, hT8, hf1, hkd1, hE1⟩
      case measure => simp [intOf]; omega
    · obtain rfl : i = nh := by omega
      have hbel := hide hT.out.bel
      clear hT hf hkd hE
      go_wp2_with fail
      refine Calls.mono (hAl.out _) ?_
      rintro e w3 ⟨rfl, hb4⟩
      go_wp2_with fail
      go_ret
      exact ⟨rfl, hbel.out.trans (hb4.mono hbel.out.size)⟩
end CW
end Go.Proofs.YteebghoijaaakaaGreat

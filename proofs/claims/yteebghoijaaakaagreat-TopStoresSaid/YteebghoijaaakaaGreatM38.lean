/- Part 38 of the proof: texts joined by this repo's tools/merge2.py (StrC HopA). By the prover of this repo. -/
import Derived.Test.YteebghoijaaakaaGreatM25
import Derived.Test.YteebghoijaaakaaGreatM33
import Derived.Test.YteebghoijaaakaaGreatM21
import Derived.Test.YteebghoijaaakaaGreatM34
import Derived.Test.YteebghoijaaakaaGreatM35
import Derived.Test.YteebghoijaaakaaGreatM2
import Derived.Test.YteebghoijaaakaaGreatM26
import Derived.Test.YteebghoijaaakaaGreatM36
import Derived.Test.YteebghoijaaakaaGreatM32
import Derived.Test.YteebghoijaaakaaGreatM37
import Derived.Test.YteebghoijaaakaaGreatM29
import Derived.Test.YteebghoijaaakaaGreatM24
import Derived.Test.YteebghoijaaakaaGreatM14
set_option linter.unusedVariables false
set_option linter.unusedSimpArgs false
/- The law TopStores: a digest, written and read again. By the prover of this repo. -/
namespace Go.Proofs.YteebghoijaaakaaGreat
open Go.RowKit
open TwigM RollM StoM TopM

/-- A digest made anew. -/
def Anew (w : World) (K kd L : Int) (l : List Nd) (d : Nat) (w' : World) : Prop := ∃ p F, DigAt w' d p K kd L l F ∧ w.heap.size ≤ d ∧ w.heap.size ≤ p ∧ (∀ j, F j → w.heap.size ≤ j) ∧ Below w.heap.size w w'
theorem Anew.early {w w0 w' : World} {K kd L : Int} {l : List Nd} {d : Nat} (h : Anew w K kd L l d w') (b : Below w0.heap.size w0 w) : Anew w0 K kd L l d w' := by
  obtain ⟨p, F, h1, h2, h3, h4, h5⟩ := h
  have := b.size
  exact ⟨p, F, h1, by omega, by omega, fun j hj => by have := h4 j hj; omega, b.trans (h5.mono this)⟩
section
variable {L K kd : Int} {l b : List Nd}
theorem dec_c (f : Fit L (K, (l, b))) (hL1 : 1 ≤ L) (hL : L ≤ 10) {kd' : Int} (hk : Kd kd') (W : World) :
    Calls Tryz.prog 60 #[.string (SealM.sealed (rawS L K l)), .int .i64 kd'] W fun e W' => ∃ d, e = .returned (.tuple #[.pointer (some ⟨d, 0, none⟩), .int .i64 0]) ∧ Anew W K kd' L l d W' :=
  (wire_decode L K kd' l W f.inv.canon f.inv.inU hL1 (by omega) f.k1 f.k2 f.inv.sum f.inv.room (by have := f.len; simp only at this; omega) f.light (f.load hL1 hL hk)).mono fun _ _ ⟨d, p, F, h1, h2⟩ => ⟨d, h1, p, F, h2⟩
theorem read_c (f : Fit L (K, (l, b))) (hL1 : 1 ≤ L) (hL : L ≤ 10) {kd' : Int} (hk : Kd kd') (W : World) :
    Calls Tryz.prog 61 #[.string ⟨(textL L K l).toArray⟩, .int .i64 kd'] W fun e W' => ∃ d, e = .returned (.tuple #[.pointer (some ⟨d, 0, none⟩), .int .i64 0, .int .i64 0]) ∧ Anew W K kd' L l d W' :=
  (SH.sheet_read L K kd' l W f.inv.canon f.inv.inU hL1 (by omega) f.k1 f.k2 f.inv.sum f.inv.room (by have := f.len; simp only at this; omega) (f.roll hL1 hL) (f.wf hL) f.light (f.load hL1 hL hk)).mono fun _ _ ⟨d, p, F, h1, h2⟩ => ⟨d, h1, p, F, h2⟩
theorem trn_c (f : Fit L (K, (l, b))) (hL1 : 1 ≤ L) (hL : L ≤ 10) {kd' : Int} (hk : Kd kd') {d p : Nat} {F : Nat → Prop} (W : World) (h : DigAt W d p K kd L l F) :
    Calls Tryz.prog 62 #[.pointer (some ⟨d, 0, none⟩), .int .i64 kd'] W fun e W' => ∃ d', e = .returned (.tuple #[.pointer (some ⟨d', 0, none⟩), .int .i64 0]) ∧ Anew W K kd' L l d' W' :=
  (turn_c d p K kd kd' L l F W h (by unfold kindB; rcases hk with rfl | rfl <;> simp <;> omega) (f.load hL1 hL hk)).mono fun _ _ ⟨d, p, F, h1, h2⟩ => ⟨d, h1, p, F, h2⟩
end
theorem body_small {L K : Int} {l b : List Nd} (f : Fit L (K, (l, b))) (hL1 : 1 ≤ L) (hL : L ≤ 10) : (SealM.sealed (rawS L K l)).size ≤ 1048576 := by
  have hp := pw_le48 (show L ≤ 48 by omega)
  have hbd : ∀ p ∈ l, 1 ≤ p.1 ∧ p.1 ≤ 9223372036854775807 := fun p hp => by have := f.inv.inU p hp; omega
  have h1 := f.len
  have h2 := f.k1
  have h3 := f.k2
  have h4 := sumL_nonneg l f.inv.canon.cntL
  have h5 : sumL l ≤ 72057594037927935 := f.inv.sum
  have hc : Canon l := f.inv.canon
  simp only at h1 h2 h3
  have hrl := WirM.rawL_len (L := L) (K := K) hc hbd (by omega) (by omega) (by omega) (by omega)
  rw [WirM.rawS_eq hc (by omega) fun p hp => (hbd p hp).1, sealed_size, WirM.str_size]
  omega
set_option maxRecDepth 100000 in
set_option maxHeartbeats 2000000 in
theorem through_c (d p : Nat) (K kd L k : Int) (l b : List Nd) (F : Nat → Prop) (w : World) (h : DigAt w d p K kd L l F) (f : Fit L (K, (l, b))) (hL : L ≤ 10) (hkd : Kd kd) (hk : k = 3 ∨ k = 4 ∨ k = 6 ∨ k = 9) :
    Calls Tryz.prog 22 #[.pointer (some ⟨d, 0, none⟩), .int .i64 k] w fun e w' => ∃ d', e = .returned (.pointer (some ⟨d', 0, none⟩)) ∧ Anew w K (3 - kd) L l d' w' := by
  obtain ⟨hL1, hL2⟩ := h.pool.uni
  have hCf := hide (digest_conf d p K kd L l F w h)
  have hKp := hide (fun W (hW : Below w.heap.size w W) => h.kept hW)
  have hEn := hide (fun W (hW : Below w.heap.size w W) => wire_encode d p K kd L l F W (h.kept hW) (by have := f.len; simp only at this; omega))
  have hTx := hide (fun W (hW : Below w.heap.size w W) => sheet_text d p K kd L l F W (h.kept hW))
  have hDc := hide (fun W => dec_c f hL1 hL hkd.other W)
  have hRd := hide (fun W => read_c f hL1 hL hkd.other W)
  have hTn := hide (fun W (hW : Below w.heap.size w W) => trn_c f hL1 hL hkd.other W (h.kept hW))
  have hCw := hide (fun W => crew_with 0 2 W (by omega) (by omega))
  rw [show withF 0 2 = 4 by decide] at hCw
  have hbs := body_small f hL1 hL
  have hwl : Let.Wf ⟨1, 2, 4, SealM.sealed (rawS L K l)⟩ := ⟨by simp, by simp, by simp, by simp, by simp, by simp, by simp only; omega⟩
  have hrt : rightF ⟨1, 2, 4, SealM.sealed (rawS L K l)⟩ = true := by
    unfold rightF
    simp only [decide_eq_true hbs, Bool.and_true]
    show (decide ((0 : Int) ≤ 1) && (hasF 4 2 && decide ((4 : Int) < 281474976710656))) = true
    rfl
  have hLe := hide (fun W => letter_encode_yes ⟨1, 2, 4, SealM.sealed (rawS L K l)⟩ hwl W hrt)
  have hLd := hide (fun W => letter_back ⟨1, 2, 4, SealM.sealed (rawS L K l)⟩ hwl hrt W (by
    rw [sealed_size]
    have := plain_size ⟨1, 2, 4, SealM.sealed (rawS L K l)⟩ ⟨by simp, by simp, by simp, hbs⟩
    omega))
  generalize SealM.sealed (plainF ⟨1, 2, 4, SealM.sealed (rawS L K l)⟩) = ltx at *
  have hkk : kd = 1 ∨ kd = 2 := hkd
  clear h f hkd
  unfold conf at hCf
  rcases hk with rfl | rfl | rfl | rfl
  · go_enter Tryz.func22, Tryz.ntmps22
    go_wp2_with fail
    refine Calls.mono hCf.out ?_
    rintro e w1 ⟨rfl, hb1⟩
    have hz1 := hb1.size
    have hb2 := hide (balloc hb1 (.cells #[.int .i64 L, .int .i64 K, .int .i64 (3 - kd)] 42))
    have bc := hide (Blk.made w1 42 #[.int .i64 L, .int .i64 K, .int .i64 (3 - kd)])
    clear hb1
    go_wp2_with fail
    generalize w1.alloc (.cells #[.int .i64 L, .int .i64 K, .int .i64 (3 - kd)] 42) = W2 at *
    obtain ⟨cb, hcb⟩ : ∃ cb, w1.heap.size = cb := ⟨_, rfl⟩
    rw [hcb] at bc ⊢
    refine Calls.mono (hEn.out W2 hb2.out) ?_
    rintro e w3 ⟨rfl, hb3⟩
    have b3 := bc.out.kept hb3
    have x0 : w3.cell? ⟨cb, 2, none⟩ = some (.int .i64 (3 - kd)) := b3.cell 2
    have x1 := b3.lt
    have hb4 := hide (hb2.out.trans (hb3.mono hb2.out.size))
    clear b3 hb3
    go_wp2_with fail
    refine Calls.mono (hDc.out w3) ?_
    rintro e w4 ⟨d', rfl, hA⟩
    go_wp2_with fail
    go_ret
    exact ⟨d', rfl, hA.early hb4.out⟩
  · go_enter Tryz.func22, Tryz.ntmps22
    go_wp2_with fail
    refine Calls.mono hCf.out ?_
    rintro e w1 ⟨rfl, hb1⟩
    have hz1 := hb1.size
    have hb2 := hide (balloc hb1 (.cells #[.int .i64 L, .int .i64 K, .int .i64 (3 - kd)] 42))
    have bc := hide (Blk.made w1 42 #[.int .i64 L, .int .i64 K, .int .i64 (3 - kd)])
    clear hb1
    go_wp2_with fail
    generalize w1.alloc (.cells #[.int .i64 L, .int .i64 K, .int .i64 (3 - kd)] 42) = W2 at *
    obtain ⟨cb, hcb⟩ : ∃ cb, w1.heap.size = cb := ⟨_, rfl⟩
    rw [hcb] at bc ⊢
    refine Calls.mono (hTx.out W2 hb2.out) ?_
    rintro e w3 ⟨rfl, hb3⟩
    have b3 := bc.out.kept hb3
    have x0 : w3.cell? ⟨cb, 2, none⟩ = some (.int .i64 (3 - kd)) := b3.cell 2
    have x1 := b3.lt
    have hb4 := hide (hb2.out.trans (hb3.mono hb2.out.size))
    clear b3 hb3
    go_wp2_with fail
    refine Calls.mono (hRd.out w3) ?_
    rintro e w4 ⟨d', rfl, hA⟩
    go_wp2_with fail
    go_ret
    exact ⟨d', rfl, hA.early hb4.out⟩
  · go_enter Tryz.func22, Tryz.ntmps22
    go_wp2_with fail
    refine Calls.mono hCf.out ?_
    rintro e w1 ⟨rfl, hb1⟩
    have hz1 := hb1.size
    have hb2 := hide (balloc hb1 (.cells #[.int .i64 L, .int .i64 K, .int .i64 (3 - kd)] 42))
    have bc := hide (Blk.made w1 42 #[.int .i64 L, .int .i64 K, .int .i64 (3 - kd)])
    clear hb1
    go_wp2_with fail
    generalize w1.alloc (.cells #[.int .i64 L, .int .i64 K, .int .i64 (3 - kd)] 42) = W2 at *
    obtain ⟨cb, hcb⟩ : ∃ cb, w1.heap.size = cb := ⟨_, rfl⟩
    rw [hcb] at bc ⊢
    have x0 : W2.cell? ⟨cb, 2, none⟩ = some (.int .i64 (3 - kd)) := bc.out.cell 2
    have x1 := bc.out.lt
    go_wp2_with fail
    refine Calls.mono (hTn.out W2 hb2.out) ?_
    rintro e w4 ⟨d', rfl, hA⟩
    go_wp2_with fail
    go_ret
    exact ⟨d', rfl, hA.early hb2.out⟩
  · go_enter Tryz.func22, Tryz.ntmps22
    go_wp2_with fail
    refine Calls.mono hCf.out ?_
    rintro e w1 ⟨rfl, hb1⟩
    have hz1 := hb1.size
    have hb2 := hide (balloc hb1 (.cells #[.int .i64 L, .int .i64 K, .int .i64 (3 - kd)] 42))
    have bc := hide (Blk.made w1 42 #[.int .i64 L, .int .i64 K, .int .i64 (3 - kd)])
    clear hb1
    go_wp2_with fail
    generalize w1.alloc (.cells #[.int .i64 L, .int .i64 K, .int .i64 (3 - kd)] 42) = W2 at *
    obtain ⟨cb, hcb⟩ : ∃ cb, w1.heap.size = cb := ⟨_, rfl⟩
    rw [hcb] at bc ⊢
    refine Calls.mono (hEn.out W2 hb2.out) ?_
    rintro e w3 ⟨rfl, hb3⟩
    have b3 := hide (bc.out.kept hb3)
    have hb4 := hide (hb2.out.trans (hb3.mono hb2.out.size))
    clear hb3
    go_wp2_with fail
    refine Calls.mono (hCw.out _) ?_
    rintro e w4 ⟨rfl, rfl⟩
    go_wp2_with fail
    refine Calls.mono (hLe.out _) ?_
    rintro e w5 ⟨rfl, hb5⟩
    have b5 := hide (b3.out.kept hb5)
    have hb6 := hide (hb4.out.trans (hb5.mono hb4.out.size))
    clear b3 hb4 hb5
    go_wp2_with fail
    refine Calls.mono (hLd.out _) ?_
    rintro e w6 ⟨rfl, hb7⟩
    have b7 := b5.out.kept hb7
    have x0 : w6.cell? ⟨cb, 2, none⟩ = some (.int .i64 (3 - kd)) := b7.cell 2
    have x1 := b7.lt
    have hb8 := hide (hb6.out.trans (hb7.mono hb6.out.size))
    have hb9 := hide (balloc hb8.out (.cells #[.int .i64 1, .int .i64 2, .int .u64 4, .string (SealM.sealed (rawS L K l))] 119))
    clear hb7 b7 b5 hb6
    go_wp2_with fail
    refine Calls.mono (hDc.out _) ?_
    rintro e w7 ⟨d', rfl, hA⟩
    go_wp2_with fail
    go_ret
    exact ⟨d', rfl, hA.early hb9.out⟩
end Go.Proofs.YteebghoijaaakaaGreat
/- The walk of crowd.hop: what a call leaves. By the prover of this repo. -/
namespace Go.Proofs.YteebghoijaaakaaGreat
namespace CW
open Go.RowKit
open TwigM RollM StoM TopM

/-- What a call leaves of a crowd. -/
def HopOut (w0 : World) (c gd gb n cd cb : Nat) (L : Int) (d0 p0 : Nat → Nat) (v0 : Nat → Value) (Fs0 : Nat → Nat → Prop) (D : Nat → Int) (s : Nat → DS) (e : Ending) (w : World) : Prop :=
  e = .returned (.bool true) ∧ ∃ d p v Fs, CrowdX w c gd gb n cd cb L D s d p v Fs ∧ Hp w0 w c gd gb n d0 p0 v0 Fs0 d p v Fs
theorem CrowdX.okV {w w' : World} {c gd gb n cd cb : Nat} {L : Int} {D : Nat → Int} {s : Nat → DS} {d p : Nat → Nat} {v : Nat → Value} {Fs : Nat → Nat → Prop} (h : CrowdX w c gd gb n cd cb L D s d p v Fs) {i : Nat} (hi : i < n) {u : Value} (hv : ∀ j, u.ownBlock = some j → j < w'.heap.size ∧ ((v i).ownBlock = some j ∨ w.heap.size ≤ j)) :
    ∀ j, u.ownBlock = some j → j < w'.heap.size ∧ j ≠ gd ∧ j ≠ gb ∧ ∀ k, k < n → ¬ Fs k j := by
  intro j hj
  obtain ⟨h1, h2⟩ := hv j hj
  rcases h2 with q | q
  · exact ⟨h1, (h.vlt i hi j q).2⟩
  · have g1 := h.gdlt
    have g2 := h.gblt
    exact ⟨h1, by omega, by omega, fun k hk hF => by have := (h.dig k hk).lt.2.2 j hF; omega⟩
theorem al_v {c gd gb n : Nat} {d p : Nat → Nat} {v : Nat → Value} {Fs : Nat → Nat → Prop} {i : Nat} (hi : i < n) {w w0 w' : World} (hz : w0.heap.size ≤ w.heap.size) {u : Value} (hv : ∀ j, u.ownBlock = some j → j < w'.heap.size ∧ ((v i).ownBlock = some j ∨ w.heap.size ≤ j)) :
    ∀ j, u.ownBlock = some j → Al c gd gb n d p v Fs j ∨ w0.heap.size ≤ j := by
  intro j hj
  rcases (hv j hj).2 with q | q
  · exact .inl (.inr (.inr (.inr ⟨i, hi, .inr (.inr (.inr q))⟩)))
  · right; omega
end CW
end Go.Proofs.YteebghoijaaakaaGreat

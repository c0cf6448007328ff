/- Part 49 of the proof: texts joined by this repo's tools/merge2.py (HopC StrF). By the prover of this repo. -/
import Derived.Test.YteebghoijaaakaaGreatM39
import Derived.Test.YteebghoijaaakaaGreatM40
import Derived.Test.YteebghoijaaakaaGreatM41
import Derived.Test.YteebghoijaaakaaGreatM42
import Derived.Test.YteebghoijaaakaaGreatM43
import Derived.Test.YteebghoijaaakaaGreatM45
import Derived.Test.YteebghoijaaakaaGreatM46
import Derived.Test.YteebghoijaaakaaGreatM47
import Derived.Test.YteebghoijaaakaaGreatM25
import Derived.Test.YteebghoijaaakaaGreatM48
import Derived.Test.YteebghoijaaakaaGreatM15
set_option linter.unusedVariables false
set_option linter.unusedSimpArgs false
/- The walk of crowd.hop: whatever the call. By the prover of this repo. -/
namespace Go.Proofs.YteebghoijaaakaaGreat
namespace CW
open Go.RowKit
open TwigM RollM StoM TopM

/-- A call, as a value. -/
def hopV (h : TopM.Hop) : Value := .agg #[.int .i64 h.1, .int .i64 h.2.1, .int .i64 h.2.2.1, .int .i64 h.2.2.2.1, .int .i64 h.2.2.2.2]
/-- Its numbers are of their type. -/
def HopWf (h : TopM.Hop) : Prop := (-9223372036854775808 ≤ h.1 ∧ h.1 ≤ 9223372036854775807) ∧ (-9223372036854775808 ≤ h.2.1 ∧ h.2.1 ≤ 9223372036854775807) ∧ (-9223372036854775808 ≤ h.2.2.1 ∧ h.2.2.1 ≤ 9223372036854775807) ∧ (-9223372036854775808 ≤ h.2.2.2.1 ∧ h.2.2.2.1 ≤ 9223372036854775807) ∧ -9223372036854775808 ≤ h.2.2.2.2 ∧ h.2.2.2.2 ≤ 9223372036854775807
/-- The kinds behind a call. -/
def kdU (D : Nat → Int) (i : Nat) (k : Int) : Nat → Int := if k = 3 ∨ k = 4 ∨ k = 6 ∨ k = 9 then up D i (3 - D i) else D
theorem hop_c (c gd gb n cd cb : Nat) (L : Int) (D : Nat → Int) (s : Nat → DS) (d p : Nat → Nat) (v : Nat → Value) (Fs : Nat → Nat → Prop) (w : World) (hX : CrowdX w c gd gb n cd cb L D s d p v Fs) (hL1 : 1 ≤ L) (hL : L ≤ 10) (hn1 : 1 ≤ n) (hn5 : n ≤ 5) (hf : ∀ j, j < n → Fit L (s j)) (hkd : ∀ j, j < n → Kd (D j))
    (h : TopM.Hop) (hw : HopWf h) (i k : Nat) (hi : i < n) (hk : k < n) (hai : atF h.2.1 n = i) (hak : atF h.2.2.1 n = k) :
    Calls Tryz.prog 7 #[.pointer (some ⟨c, 0, none⟩), hopV h] w (HopOut w c gd gb n cd cb L d p v Fs (kdU D i h.1) (up s i (TopM.oneF L (s i) (s k) h))) := by
  obtain ⟨kk, on, oth, x, m⟩ := h
  obtain ⟨-, hon, hoth, hx, hm⟩ := hw
  have kn : ¬ (kk = 3 ∨ kk = 4 ∨ kk = 6 ∨ kk = 9) → kdU D i kk = D := fun e => if_neg e
  have ky : (kk = 3 ∨ kk = 4 ∨ kk = 6 ∨ kk = 9) → kdU D i kk = up D i (3 - D i) := fun e => if_pos e
  unfold hopV
  simp only
  by_cases e1 : kk = 1
  · subst e1
    rw [kn (by omega)]
    exact hop_one c gd gb n cd cb L D s d p v Fs w hX hL1 hL hn1 hn5 hf hkd on oth x m hon hoth hx hm i k hi hk hai hak
  by_cases e2 : kk = 2
  · subst e2
    rw [kn (by omega)]
    by_cases q : 72057594037927935 < sumL (s i).2.1 + sumL (s k).2.1
    · exact hop_mrgn c gd gb n cd cb L D s d p v Fs w hX hL1 hL hn1 hn5 hf hkd on oth x m hon hoth hx hm i k hi hk hai hak q
    · exact hop_mrg c gd gb n cd cb L D s d p v Fs w hX hL1 hL hn1 hn5 hf hkd on oth x m hon hoth hx hm i k hi hk hai hak q
  by_cases e3 : kk = 3
  · subst e3
    rw [ky (by omega)]
    exact hop_thr3 c gd gb n cd cb L D s d p v Fs w hX hL1 hL hn1 hn5 hf hkd on oth x m hon hoth hx hm i k hi hk hai hak
  by_cases e4 : kk = 4
  · subst e4
    rw [ky (by omega)]
    exact hop_thr4 c gd gb n cd cb L D s d p v Fs w hX hL1 hL hn1 hn5 hf hkd on oth x m hon hoth hx hm i k hi hk hai hak
  by_cases e5 : kk = 5
  · subst e5
    rw [kn (by omega)]
    exact hop_cln c gd gb n cd cb L D s d p v Fs w hX hL1 hL hn1 hn5 hf hkd on oth x m hon hoth hx hm i k hi hk hai hak
  by_cases e6 : kk = 6
  · subst e6
    rw [ky (by omega)]
    exact hop_thr6 c gd gb n cd cb L D s d p v Fs w hX hL1 hL hn1 hn5 hf hkd on oth x m hon hoth hx hm i k hi hk hai hak
  by_cases e7 : kk = 7
  · subst e7
    rw [kn (by omega)]
    by_cases q : x < 1 ∨ (s i).1 < x
    · exact hop_low c gd gb n cd cb L D s d p v Fs w hX hL1 hL hn1 hn5 hf hkd on oth x m hon hoth hx hm i k hi hk hai hak q
    · exact hop_lowy c gd gb n cd cb L D s d p v Fs w hX hL1 hL hn1 hn5 hf hkd on oth x m hon hoth hx hm i k hi hk hai hak (by omega) (by omega)
  by_cases e8 : kk = 8
  · subst e8
    rw [kn (by omega)]
    exact hop_rst c gd gb n cd cb L D s d p v Fs w hX hL1 hL hn1 hn5 hf hkd on oth x m hon hoth hx hm i k hi hk hai hak
  by_cases e9 : kk = 9
  · subst e9
    rw [ky (by omega)]
    exact hop_thr9 c gd gb n cd cb L D s d p v Fs w hX hL1 hL hn1 hn5 hf hkd on oth x m hon hoth hx hm i k hi hk hai hak
  rw [kn (by omega)]
  by_cases q : insE L x m (sumL (s i).2.1) = 0
  · exact hop_ins c gd gb n cd cb L D s d p v Fs w hX hL1 hL hn1 hn5 hf hkd kk on oth x m hon hoth hx hm i k hi hk hai hak e1 e2 e3 e4 e5 e6 e7 e8 e9 q
  · exact hop_insn c gd gb n cd cb L D s d p v Fs w hX hL1 hL hn1 hn5 hf hkd kk on oth x m hon hoth hx hm i k hi hk hai hak e1 e2 e3 e4 e5 e6 e7 e8 e9 q
theorem hop_fit1 {L : Int} {n : Nat} {s : Nat → DS} (hL1 : 1 ≤ L) (hL : L ≤ 10) (hf : ∀ j, j < n → Fit L (s j)) (h : TopM.Hop) {i k : Nat} (hi : i < n) (hk : k < n) : ∀ j, j < n → Fit L (up s i (TopM.oneF L (s i) (s k) h) j) := fun j hj => by
  by_cases e : j = i
  · subst e
    rw [up_same]
    exact (hf j hj).one (hf k hk) hL1 hL h
  · rw [up_other _ _ e]
    exact hf j hj
theorem kdU_kd {D : Nat → Int} {n : Nat} (hkd : ∀ j, j < n → Kd (D j)) {i : Nat} (hi : i < n) (k : Int) : ∀ j, j < n → Kd (kdU D i k j) := fun j hj => by
  unfold kdU
  split
  · by_cases e : j = i
    · subst e
      rw [up_same]
      exact (hkd j hj).other
    · rw [up_other _ _ e]
      exact hkd j hj
  · exact hkd j hj
theorem kdU_apart {D E : Nat → Int} {n : Nat} (hE : ∀ j, j < n → E j = 3 - D j) {i : Nat} (hi : i < n) (k : Int) : ∀ j, j < n → kdU E i k j = 3 - kdU D i k j := fun j hj => by
  unfold kdU
  split
  · by_cases e : j = i
    · subst e
      rw [up_same, up_same, hE j hj]
    · rw [up_other _ _ e, up_other _ _ e]
      exact hE j hj
  · exact hE j hj
end CW
end Go.Proofs.YteebghoijaaakaaGreat
/- The law TopStores: two crowds, and the walk of the law. By the prover of this repo. -/
namespace Go.Proofs.YteebghoijaaakaaGreat
namespace CW
open Go.RowKit
open TwigM RollM StoM TopM

/-- The cells of a list of calls. -/
def hpc (l : List TopM.Hop) (j : Nat) : Value := .int .i64 (match j % 5 with
  | 0 => (l.getD (j / 5) (0, 0, 0, 0, 0)).1
  | 1 => (l.getD (j / 5) (0, 0, 0, 0, 0)).2.1
  | 2 => (l.getD (j / 5) (0, 0, 0, 0, 0)).2.2.1
  | 3 => (l.getD (j / 5) (0, 0, 0, 0, 0)).2.2.2.1
  | _ => (l.getD (j / 5) (0, 0, 0, 0, 0)).2.2.2.2)
theorem hop_at {w : World} {A : Option Addr} {l : List TopM.Hop} (h : Rd w A l.length 5 (hpc l)) {k : Nat} (hk : k < l.length) :
    ∃ b off, A = some ⟨b, off, none⟩ ∧ b < w.heap.size ∧ w.cell? ⟨b, off + k * 5, none⟩ = some (.int .i64 l[k].1) ∧ w.cell? ⟨b, off + k * 5 + 1, none⟩ = some (.int .i64 l[k].2.1) ∧ w.cell? ⟨b, off + k * 5 + 2, none⟩ = some (.int .i64 l[k].2.2.1) ∧ w.cell? ⟨b, off + k * 5 + 3, none⟩ = some (.int .i64 l[k].2.2.2.1) ∧ w.cell? ⟨b, off + k * 5 + 4, none⟩ = some (.int .i64 l[k].2.2.2.2) := by
  obtain ⟨b, off, e, hb, hc⟩ := h (by omega)
  have hg : l.getD k (0, 0, 0, 0, 0) = l[k] := by simp [hk]
  refine ⟨b, off, e, hb, ?_, ?_, ?_, ?_, ?_⟩
  · have := hc (k * 5) (by omega)
    unfold hpc at this
    rw [show k * 5 % 5 = 0 by omega, show k * 5 / 5 = k by omega, hg] at this
    exact this
  · have := hc (k * 5 + 1) (by omega)
    unfold hpc at this
    rw [show (k * 5 + 1) % 5 = 1 by omega, show (k * 5 + 1) / 5 = k by omega, hg, ← Nat.add_assoc] at this
    exact this
  · have := hc (k * 5 + 2) (by omega)
    unfold hpc at this
    rw [show (k * 5 + 2) % 5 = 2 by omega, show (k * 5 + 2) / 5 = k by omega, hg, ← Nat.add_assoc] at this
    exact this
  · have := hc (k * 5 + 3) (by omega)
    unfold hpc at this
    rw [show (k * 5 + 3) % 5 = 3 by omega, show (k * 5 + 3) / 5 = k by omega, hg, ← Nat.add_assoc] at this
    exact this
  · have := hc (k * 5 + 4) (by omega)
    unfold hpc at this
    rw [show (k * 5 + 4) % 5 = 4 by omega, show (k * 5 + 4) / 5 = k by omega, hg, ← Nat.add_assoc] at this
    exact this
/-- Two crowds that do not meet. -/
structure Two (w0 wr : World) (n : Nat) (L : Int) (c gd gb cd cb : Nat) (c2 gd2 gb2 cd2 cb2 : Nat) (D E : Nat → Int) (s : Nat → DS) (d p : Nat → Nat) (v : Nat → Value) (Fs : Nat → Nat → Prop) (d2 p2 : Nat → Nat) (v2 : Nat → Value) (Fs2 : Nat → Nat → Prop) : Prop where
  a : CrowdX wr c gd gb n cd cb L D s d p v Fs
  b : CrowdX wr c2 gd2 gb2 n cd2 cb2 L E s d2 p2 v2 Fs2
  ab : ∀ j, Al c gd gb n d p v Fs j → ¬ FF gd2 gb2 n Fs2 j
  ba : ∀ j, Al c2 gd2 gb2 n d2 p2 v2 Fs2 j → ¬ FF gd gb n Fs j
  fa : ∀ j, FF gd gb n Fs j → w0.heap.size ≤ j
  fb : ∀ j, FF gd2 gb2 n Fs2 j → w0.heap.size ≤ j
  bel : Below w0.heap.size w0 wr
theorem ff_al {c gd gb n : Nat} {d p : Nat → Nat} {v : Nat → Value} {Fs : Nat → Nat → Prop} {j : Nat} (h : FF gd gb n Fs j) : Al c gd gb n d p v Fs j := by
  rcases h with h | h | ⟨i, hi, h⟩
  · exact .inr (.inl h)
  · exact .inr (.inr (.inl h))
  · exact .inr (.inr (.inr ⟨i, hi, .inr (.inr (.inl h))⟩))
section
variable {w0 wr w1 w2 : World} {n : Nat} {L : Int} {c gd gb cd cb c2 gd2 gb2 cd2 cb2 : Nat} {D E D' E' : Nat → Int} {s s' : Nat → DS} {d p : Nat → Nat} {v : Nat → Value} {Fs : Nat → Nat → Prop} {d2 p2 : Nat → Nat} {v2 : Nat → Value} {Fs2 : Nat → Nat → Prop}
theorem Two.kept (h : Two w0 wr n L c gd gb cd cb c2 gd2 gb2 cd2 cb2 D E s d p v Fs d2 p2 v2 Fs2) (b : Below wr.heap.size wr w1) : Two w0 w1 n L c gd gb cd cb c2 gd2 gb2 cd2 cb2 D E s d p v Fs d2 p2 v2 Fs2 :=
  ⟨h.a.kept b, h.b.kept b, h.ab, h.ba, h.fa, h.fb, h.bel.trans (b.mono h.bel.size)⟩
/-- The other one, behind a call of the one. -/
theorem Two.other (h : Two w0 wr n L c gd gb cd cb c2 gd2 gb2 cd2 cb2 D E s d p v Fs d2 p2 v2 Fs2) {dd pp : Nat → Nat} {vv : Nat → Value} {FFs : Nat → Nat → Prop} (q : Hp wr w1 c gd gb n d p v Fs dd pp vv FFs) : CrowdX w1 c2 gd2 gb2 n cd2 cb2 L E s d2 p2 v2 Fs2 :=
  h.b.turned q.turn fun j hj => h.ba j hj
/-- Behind a call of both. -/
theorem Two.both (h : Two w0 wr n L c gd gb cd cb c2 gd2 gb2 cd2 cb2 D E s d p v Fs d2 p2 v2 Fs2)
    {dd pp : Nat → Nat} {vv : Nat → Value} {FFs : Nat → Nat → Prop} (hX : CrowdX w1 c gd gb n cd cb L D' s' dd pp vv FFs) (q : Hp wr w1 c gd gb n d p v Fs dd pp vv FFs)
    {dd2 pp2 : Nat → Nat} {vv2 : Nat → Value} {FFs2 : Nat → Nat → Prop} (hX2 : CrowdX w2 c2 gd2 gb2 n cd2 cb2 L E' s' dd2 pp2 vv2 FFs2) (q2 : Hp w1 w2 c2 gd2 gb2 n d2 p2 v2 Fs2 dd2 pp2 vv2 FFs2) :
    Two w0 w2 n L c gd gb cd cb c2 gd2 gb2 cd2 cb2 D' E' s' dd pp vv FFs dd2 pp2 vv2 FFs2 := by
  have hz1 := q.turn.size
  have hz0 := h.bel.size
  have hlb := h.b.lt
  have hla := h.a.lt
  have hl1 := hX.lt
  have al1 : ∀ j, Al c gd gb n dd pp vv FFs j → ¬ FF gd2 gb2 n Fs2 j := fun j hj hF => by
    rcases q.al j hj with e | e
    · exact h.ab j e hF
    · have := hlb j (ff_al hF); omega
  refine ⟨hX.turned q2.turn al1, hX2, fun j hj hF => ?_, fun j hj hF => ?_, fun j hj => ?_, fun j hj => ?_, ?_⟩
  · rcases q2.ff j hF with e | e
    · exact al1 j hj e
    · have := hl1 j hj; omega
  · rcases q2.al j hj with e | e
    · rcases q.ff j hF with e2 | e2
      · exact h.ba j e e2
      · have := hlb j e; omega
    · have := hl1 j (ff_al hF); omega
  · rcases q.ff j hj with e | e
    · exact h.fa j e
    · omega
  · rcases q2.ff j hj with e | e
    · exact h.fb j e
    · omega
  · exact (h.bel.trans (q.turn.below _ hz0 fun j hj e => by have := h.fa j e; omega)).trans (q2.turn.below _ (by omega) fun j hj e => by have := h.fb j e; omega)
end
end CW
end Go.Proofs.YteebghoijaaakaaGreat

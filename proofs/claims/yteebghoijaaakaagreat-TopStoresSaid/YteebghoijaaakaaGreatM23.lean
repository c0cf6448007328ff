/- Part 23 of the proof: texts joined by this repo's tools/merge2.py (DigE RecA RecB RecC RecD RecE RecF TopM TopN BlnA). By the prover of this repo. -/
import Derived.Test.YteebghoijaaakaaGreatM14
import Derived.Test.YteebghoijaaakaaGreatM9
import Derived.Test.YteebghoijaaakaaGreatM3
import Derived.Deep.RegionWith
set_option linter.unusedVariables false
set_option linter.unusedSimpArgs false
/- The walks of digest.*, on: Conf, Load. By the prover of this repo. -/
namespace Go.Proofs.YteebghoijaaakaaGreat
open Go.RowKit
open TwigM RollM StoM

def loadB (L K kd : Int) (r : List Nd) : Bool := confB L K kd && (rollB L r && (decide ((r.length : Int) ≤ 8 * K) && lightB L (sumL r / K) r))
set_option maxRecDepth 100000 in
set_option maxHeartbeats 2000000 in
theorem digest_load (L K kd : Int) (A : Option Addr) (c : Nat) (r : List Nd) (w : World) (hr : Rd w A r.length 2 (ndc r)) (hl : r.length ≤ 1000000) (hwf : NdWf r) (h : loadB L K kd r = true) :
    Calls Tryz.prog 57 #[conf L K kd, .slice A r.length c] w fun e w' => ∃ d p F, e = .returned (.tuple #[.pointer (some ⟨d, 0, none⟩), .int .i64 0]) ∧ DigAt w' d p K kd L r F ∧ w.heap.size ≤ d ∧ w.heap.size ≤ p ∧ (∀ j, F j → w.heap.size ≤ j) ∧ Below w.heap.size w w' := by
  unfold loadB at h
  obtain ⟨hc, h⟩ := Bool.and_eq_true_iff.1 h
  obtain ⟨hro, h⟩ := Bool.and_eq_true_iff.1 h
  obtain ⟨hn, hli⟩ := Bool.and_eq_true_iff.1 h
  have hn := of_decide_eq_true hn
  have hc2 := hc
  unfold confB at hc2
  obtain ⟨hk, hK⟩ := Bool.and_eq_true_iff.1 hc2
  have hK2 : 1 ≤ K ∧ K ≤ 1048576 := by simpa using hK
  obtain ⟨h1, h2⟩ := hK2
  have hb0 := balloc0 w (.cells #[.int .i64 L, .int .i64 K, .int .i64 kd] 42)
  have bC := Blk.made w 42 #[.int .i64 L, .int .i64 K, .int .i64 kd]
  have hN := hide (fun W => digest_new L K kd W hc)
  have hR := hide (fun (W : World) (hW : Below w.heap.size w W) => roll_right L A c r W (hr.kept hW) hl hwf)
  rw [hro] at hR
  have hP := hide (fun (W : World) (hW : Below w.heap.size w W) => pool_load kd L A c r W (hr.kept hW) hl hwf hk hro)
  have hLi := hide (fun (p : Nat) (F : Nat → Prop) (W : World) (hW : PoolAt W p kd L r F) => press_light p kd L K r F W hW h1 h2)
  rw [hli] at hLi
  have hbk := hide (fun W (hW : Below (w.alloc (.cells #[.int .i64 L, .int .i64 K, .int .i64 kd] 42)).heap.size (w.alloc (.cells #[.int .i64 L, .int .i64 K, .int .i64 kd] 42)) W) => bC.kept hW)
  clear h hc hro hli hc2 hk hK hr hwf
  unfold conf at hN ⊢
  have cC0 := bC.cell 0
  have cC1 := bC.cell 1
  have cC2 := bC.cell 2
  have hbx := hide hb0
  generalize hW0 : (w.alloc (.cells #[.int .i64 L, .int .i64 K, .int .i64 kd] 42)) = W0 at *
  have hbC := hide bC
  have hs0 : Hid (w.heap.size ≤ W0.heap.size) := hb0.size
  clear bC hb0
  go_enter Tryz.func57, Tryz.ntmps57
  go_wp2_with fail
  refine Calls.mono (hN.out _) ?_
  rintro e w1 ⟨d0, p0, F0, rfl, -, -, -, -, hb1⟩
  have bC1 := hbk.out w1 hb1
  clear cC0 cC1 cC2
  have cC0 := bC1.cell 0
  have cC1 := bC1.cell 1
  have cC2 := bC1.cell 2
  have hz1 := hb1.size
  have hb1 := hide (hbx.out.trans (hb1.mono hs0.out))
  have bC1 := hide bC1
  go_wp2_with fail
  refine Calls.mono (hR.out w1 hb1.out) ?_
  rintro e w2 ⟨rfl, hb2⟩
  clear cC0 cC1 cC2
  have bC2 := bC1.out.kept hb2
  have cC0 := bC2.cell 0
  have cC1 := bC2.cell 1
  have cC2 := bC2.cell 2
  have bC2 := hide bC2
  have hb2 := hide (hb1.out.trans (hb2.mono hb1.out.size))
  go_wp2_with fail
  refine Calls.mono (hP.out w2 hb2.out) ?_
  rintro e w3 ⟨p, F, rfl, hp, hpw, hF, hb3⟩
  clear cC0 cC1 cC2
  have bC3 := bC2.out.kept hb3
  have cC1 := bC3.cell 1
  have hsz2 := hb2.out.size
  have hb3 := hide (hb2.out.trans (hb3.mono hsz2))
  have hpl := hp.lt
  have hp := hide hp
  have hF := hide hF
  have bC3 := hide bC3
  go_wp2_with fail
  refine Calls.mono (hLi.out p F w3 hp.out) ?_
  rintro e w4 ⟨rfl, hb4⟩
  clear cC1
  have cC1 := (bC3.out.kept hb4).cell 1
  have hsz3 := hb4.size
  have hp4 := hide (hp.out.kept hb4)
  have hb4 := hide (hb3.out.trans (hb4.mono hb3.out.size))
  go_wp2_with fail
  go_ret2
  exact ⟨w4.heap.size, p, F, rfl, ⟨Blk.made _ _ _, hp4.out.kept (balloc0 _ _), by omega, fun k => by have := hpl.2 _ k; omega, h1, h2⟩, hb4.out.size, by omega, fun j hj => by have := hF.out j hj; omega, balloc hb4.out _⟩
end Go.Proofs.YteebghoijaaakaaGreat
/- The walks of recast.*: may, and how a node moves. By the prover of this repo. -/
namespace Go.Proofs.YteebghoijaaakaaGreat
open Go.RowKit
open TwigM RollM StoM

theorem rec_may (L K kd : Int) (w : World) : Calls Tryz.prog 107 #[conf L K kd] w fun e w' => e = .returned (.bool (kindB kd L)) ∧ Below w.heap.size w w' := by
  have hb0 := balloc0 w (.cells #[.int .i64 L, .int .i64 K, .int .i64 kd] 42)
  have hcf : confB L 1 kd = kindB kd L := by unfold confB; simp
  by_cases hk : kindB kd L = true
  · have hN := hide (fun W => digest_new L 1 kd W (by rw [hcf]; exact hk))
    rw [hk]
    clear hk hcf
    unfold conf at hN ⊢
    go_enter Tryz.func107, Tryz.ntmps107
    go_wp2_with fail
    refine Calls.mono (hN.out _) ?_
    rintro e w1 ⟨d, p, F, rfl, -, -, -, -, hb1⟩
    have hb := hide (hb0.trans (hb1.mono (by simp)))
    clear hb1
    go_wp2_with fail
    go_ret
    exact ⟨rfl, hb.out⟩
  · have hk2 : kindB kd L = false := by simpa using hk
    have hN := hide (fun W => digest_new_no L 1 kd W (by rw [hcf]; exact hk2))
    rw [hk2]
    clear hk hk2 hcf
    unfold conf at hN ⊢
    go_enter Tryz.func107, Tryz.ntmps107
    go_wp2_with fail
    refine Calls.mono (hN.out _) ?_
    rintro e w1 ⟨rfl, hb1⟩
    have hb := hide (hb0.trans (hb1.mono (by simp)))
    clear hb1
    go_wp2_with fail
    go_ret
    exact ⟨rfl, hb.out⟩
end Go.Proofs.YteebghoijaaakaaGreat
/- The walks of recast.*, on: all nodes move (Grow). By the prover of this repo. -/
namespace Go.Proofs.YteebghoijaaakaaGreat
open Go.RowKit
open TwigM RollM StoM

/-- The first nodes moved, the others not yet. -/
def movL (f : Int → Int) (l : List Nd) (i : Nat) : List Nd := (l.take i).map (fun q => (f q.1, q.2)) ++ l.drop i
theorem movL_len (f : Int → Int) (l : List Nd) (i : Nat) : (movL f l i).length = l.length := by
  unfold movL
  rw [List.length_append, List.length_map, List.length_take, List.length_drop]
  omega
theorem movL_all (f : Int → Int) (l : List Nd) : movL f l l.length = l.map fun q => (f q.1, q.2) := by
  unfold movL
  rw [List.take_length, List.drop_length, List.append_nil]
theorem movL_at (f : Int → Int) (l : List Nd) (i : Nat) (hi : i < l.length) : (movL f l i)[i]'(by rw [movL_len]; exact hi) = l[i] := by
  unfold movL
  rw [List.getElem_append_right (by rw [List.length_map, List.length_take]; omega), List.getElem_drop]
  congr 1
  rw [List.length_map, List.length_take]
  omega
theorem movL_next (f : Int → Int) (l : List Nd) (i : Nat) (hi : i < l.length) : (movL f l i).set i (f l[i].1, l[i].2) = movL f l (i + 1) := by
  unfold movL
  rw [List.take_succ_eq_append_getElem hi, List.map_append, List.drop_eq_getElem_cons hi, List.append_assoc]
  rw [List.set_append_right _ _ (by rw [List.length_map, List.length_take]; omega)]
  rw [List.length_map, List.length_take, show i - min i l.length = 0 by omega]
  rfl
theorem ndv_set1 (S : List Nd) (r : Nat) (x : Int) (hr : r < S.length) : (ndv S).set (r * 2) (.int .i64 x) = ndv (S.set r (x, S[r].2)) := by
  apply List.ext_getElem?
  intro j
  rw [List.getElem?_set]
  by_cases hj : j < S.length * 2
  · rw [ndv_get (S.set r (x, S[r].2)) j (by rw [List.length_set]; exact hj), ndv_get S j hj, ndv_length]
    unfold ndc
    rw [getD_set]
    by_cases e1 : r * 2 = j
    · rw [if_pos e1, if_pos (by omega), if_pos (by omega), if_pos ⟨by omega, hr⟩]
    · rw [if_neg e1]
      by_cases e2 : r = j / 2
      · have h2 : ¬ j % 2 = 0 := by omega
        rw [if_neg h2, if_neg h2, if_pos ⟨e2, hr⟩]
        have hd : S.getD (j / 2) (0, 0) = S[r] := by rw [← e2, List.getD_eq_getElem?_getD, List.getElem?_eq_getElem hr]; rfl
        rw [hd]
      · have h3 : ¬ (r = j / 2 ∧ r < S.length) := fun k => e2 k.1
        simp only [if_neg h3]
  · rw [List.getElem?_eq_none (by rw [ndv_length]; omega), List.getElem?_eq_none (by rw [ndv_length, List.length_set]; omega), ndv_length]
    split
    · split <;> first | rfl | omega
    · rfl
theorem mov_store {w : World} {base g cap : Nat} {f : Int → Int} {l : List Nd} {i : Nat} (h : w.ownsRow base 67 2 (.slice (some ⟨g, 0, none⟩) l.length cap) l.length (ndv (movL f l i))) (hi : i < l.length) :
    (w.setCell ⟨g, i * 2, none⟩ (.int .i64 (f l[i].1))).ownsRow base 67 2 (.slice (some ⟨g, 0, none⟩) l.length cap) l.length (ndv (movL f l (i + 1))) := by
  have h2 := (h.stored (i * 2) (.int .i64 (f l[i].1))).1
  have hlt : i < (movL f l i).length := by rw [movL_len]; exact hi
  rw [ndv_set1 (movL f l i) i (f l[i].1) hlt, movL_at f l i hi, movL_next f l i hi] at h2
  exact h2
end Go.Proofs.YteebghoijaaakaaGreat
/- The walk of recast.moved, as Grow calls it. By the prover of this repo. -/
namespace Go.Proofs.YteebghoijaaakaaGreat
open Go.RowKit
open TwigM RollM StoM

end Go.Proofs.YteebghoijaaakaaGreat
/- The walk of recast.moved, as Coarsen calls it. By the prover of this repo. -/
namespace Go.Proofs.YteebghoijaaakaaGreat
open Go.RowKit
open TwigM RollM StoM

end Go.Proofs.YteebghoijaaakaaGreat
/- Grow: a digest of a greater universe. By the prover of this repo. -/
namespace Go.Proofs.YteebghoijaaakaaGreat
open Go.RowKit
open TwigM RollM StoM

def growL (n : Int) (l : List Nd) : List Nd := (foldF (l.map fun q => ((graftF q.1 n).1, q.2))).1
end Go.Proofs.YteebghoijaaakaaGreat
/- Coarsen: a digest of a lesser universe. By the prover of this repo. -/
namespace Go.Proofs.YteebghoijaaakaaGreat
open Go.RowKit
open TwigM RollM StoM

def coarL (n : Int) (l : List Nd) : List Nd := (foldF (l.map fun q => ((pruneF q.1 n).1, q.2))).1
end Go.Proofs.YteebghoijaaakaaGreat
/- Plain facts on what a digest stands for: as it is filled, pressed, as its nodes move to a greater or lesser universe. No program's step in sight. By the prover of this repo. -/
namespace Go.Proofs.YteebghoijaaakaaGreat
namespace TopM
open TwigM RollM StoM Go.RowKit

/-- What a digest's nodes are, and what they stand for: a bag. -/
structure Inv (K L : Int) (l : List Nd) (b : List Nd) (N : Nat) : Prop where
  canon : Canon l
  inU : InU L l
  light : LightW L (sumL l / K) l
  room : (l.length : Int) ≤ 8 * K
  len : l.length ≤ N
  ok : BagM.Ok b
  inb : BagM.In L b
  blen : b.length ≤ N
  tot : sumL l = BagM.tot b
  low : ∀ y, lowS L y l ≤ BagM.rank y b
  high : ∀ y, BagM.rank y b ≤ highS L y l
theorem bet_none (x y : Int) (h : y < x) : ∀ l : List Nd, BagM.bet x y l = 0
  | [] => rfl
  | p :: l => by
    rw [BagM.bet, bet_none x y h l, if_neg (by omega)]; try omega
theorem Inv.sum {K L : Int} {l b : List Nd} {N : Nat} (h : Inv K L l b N) : sumL l ≤ 72057594037927935 := by rw [h.tot]; exact h.ok.most
theorem Inv.nil {K L : Int} (hK : 1 ≤ K) (N : Nat) : Inv K L [] [] N where
  canon := Canon.nil
  inU := fun p hp => by cases hp
  light := fun id _ _ => by
    show (0 : Int) ≤ 0 / K
    rw [Int.zero_ediv]; exact Int.le_refl _
  room := by simp; omega
  len := by simp
  ok := BagM.Ok.nil
  inb := BagM.In.nil L
  blen := by simp
  tot := rfl
  low := fun y => Int.le_refl _
  high := fun y => Int.le_refl _
theorem Inv.more {K L : Int} {l b : List Nd} {N M : Nat} (h : Inv K L l b N) (hM : N ≤ M) : Inv K L l b M :=
  ⟨h.canon, h.inU, h.light, h.room, Nat.le_trans h.len hM, h.ok, h.inb, Nat.le_trans h.blen hM, h.tot, h.low, h.high⟩
theorem Inv.press {K L : Int} {l b : List Nd} {N : Nat} (h : Inv K L l b N) (hL : 1 ≤ L) (hK : 1 ≤ K) : Inv K L (pressF L K l).1 b N ∧ ((pressF L K l).1.length : Int) ≤ 4 * K - 1 := by
  obtain ⟨k, h1, h2⟩ := press_all hL hK h.canon h.inU
  have hlen := h.len
  refine ⟨⟨k.canon, k.inU, ?_, by omega, by omega, h.ok, h.inb, h.blen, k.sum.trans h.tot, fun y => Int.le_trans (k.low y) (h.low y), fun y => Int.le_trans (h.high y) (k.high y)⟩, h2⟩
  rw [k.sum]
  exact k.light h.light
theorem leaf_ends {L x : Int} (hL : 1 ≤ L) (h0 : 0 ≤ x) (h1 : x < pw L) : lg (pw L + x) = L ∧ loF L (pw L + x) = x ∧ hiF L (pw L + x) = x := by
  have hp := pw_pos L
  have e : lg (pw L + x) = L := lg_unique (by omega) (by omega) (by omega)
  have e2 : loF L (pw L + x) = x := by
    unfold loF
    rw [e, show L - L = 0 by omega, pw_zero]; omega
  refine ⟨e, e2, ?_⟩
  unfold hiF
  rw [e, e2, show L - L = 0 by omega, pw_zero]; omega
theorem rank_put (y a n : Int) (l : List Nd) (ha : 0 ≤ a) : BagM.rank y (BagM.put a n l) = BagM.rank y l + if a ≤ y then n else 0 := by
  unfold BagM.rank
  rw [BagM.bet_put]
  by_cases h : a ≤ y
  · rw [if_pos h, if_pos ⟨ha, h⟩]
  · rw [if_neg h, if_neg (fun k => h k.2)]
theorem Inv.put {K L : Int} {l b : List Nd} {N : Nat} (h : Inv K L l b N) (hL : 1 ≤ L) (hK : 1 ≤ K) {x c : Int} (h0 : 0 ≤ x) (h1 : x < pw L) (hc : 1 ≤ c) (hs : sumL l + c ≤ 72057594037927935)
    (hr : wt (pw L + x) l = 0 → (l.length : Int) < 8 * K) : Inv K L (addS (pw L + x) c l) (BagM.put x c b) (N + 1) := by
  obtain ⟨e1, e2, e3⟩ := leaf_ends hL h0 h1
  have hp := pw_pos L
  have ha : addS (pw L + x) c l = StoM.put (pw L + x) c l := if_neg (by omega)
  have hlp := len_put h.canon (pw L + x) c
  have hlen := h.len
  have hroom := h.room
  have hbl := BagM.put_len x c b
  have hb2 := h.blen
  have ht := h.tot
  refine ⟨canon_addS h.canon (by omega), inU_addS h.inU (by omega) (by omega), ?_, ?_, ?_, h.ok.put x c hc (by omega), h.inb.put x c h0 h1, by omega, ?_, ?_, ?_⟩
  · rw [sumL_addS]
    intro id i1 i2
    rw [wt_addS, if_neg (by omega)]
    have := h.light id i1 i2
    have hm : sumL l / K ≤ (sumL l + c) / K := Int.ediv_le_ediv (by omega) (by omega)
    omega
  · rw [ha, hlp]
    split
    · rename_i hz
      have := hr hz
      omega
    · omega
  · rw [ha, hlp]; split <;> omega
  · rw [sumL_addS, BagM.tot_put]; omega
  · intro y
    rw [ha, rank_put y x c b h0]
    unfold lowS
    rw [sumM_put, e3]
    have := h.low y
    unfold lowS at this
    split <;> omega
  · intro y
    rw [ha, rank_put y x c b h0]
    unfold highS
    rw [sumM_put, e2]
    have := h.high y
    unfold highS at this
    split <;> omega
theorem Inv.insert {K L : Int} {l b : List Nd} {N : Nat} (h : Inv K L l b N) (hL : 1 ≤ L) (hK : 1 ≤ K) {x c : Int} (hi : insE L x c (sumL l) = 0) : Inv K L (insF L K x c l) (BagM.put x c b) (N + 1) := by
  unfold insE at hi
  have hx : 0 ≤ x ∧ x < pw L := by
    by_cases k : 0 ≤ x ∧ x < pw L
    · exact k
    · rw [if_neg k] at hi; omega
  rw [if_pos hx] at hi
  have hc : ¬ c < 1 := fun k => by rw [if_pos k] at hi; omega
  rw [if_neg hc] at hi
  have hs : ¬ 72057594037927935 < sumL l + c := fun k => by rw [if_pos k] at hi; omega
  unfold insF roomF
  by_cases hr : wt (pw L + x) l = 0 ∧ 8 * K ≤ (l.length : Int)
  · rw [if_pos hr]
    obtain ⟨h2, h3⟩ := h.press hL hK
    have e : sumL (pressF L K l).1 = sumL l := h2.tot.trans h.tot.symm
    exact h2.put hL hK hx.1 hx.2 (by omega) (by omega) fun _ => by omega
  · rw [if_neg hr]
    exact h.put hL hK hx.1 hx.2 (by omega) (by omega) fun hz => by
      have : ¬ 8 * K ≤ (l.length : Int) := fun k => hr ⟨hz, k⟩
      omega
/-- Numbers without any twice are no more than those that they are among. -/
theorem nodup_len : ∀ (a b : List Int), a.Nodup → (∀ x ∈ a, x ∈ b) → a.length ≤ b.length
  | [], _, _, _ => by simp
  | x :: a, b, hn, hs => by
    obtain ⟨h1, h2⟩ := List.nodup_cons.1 hn
    have hx := hs x (by simp)
    have ih := nodup_len a (b.erase x) h2 fun y hy => (List.mem_erase_of_ne (fun e => h1 (by rw [← e]; exact hy))).2 (hs y (by simp [hy]))
    have hl := List.length_erase_of_mem hx
    have hp := List.length_pos_of_mem hx
    simp only [List.length_cons]
    omega
theorem right_of {L : Int} (h1 : 1 ≤ L) (h2 : L ≤ 48) : ∀ (l : List Nd) (last : Int), Canon l → InU L l → (∀ p ∈ l, last < p.1) → rightGo L last l = true
  | [], _, _, _, _ => rfl
  | p :: l, last, hc, hu, hl => by
    obtain ⟨r1, r2⟩ := List.pairwise_cons.1 hc.rise
    obtain ⟨u1, u2⟩ := hu p (by simp)
    have hp := hc.cnt p (by simp)
    have hb : rightB L p.1 = true := right_mk h1 h2 u1 u2
    rw [rightGo, if_neg, right_of h1 h2 l p.1 ⟨r2, fun q hq => hc.cnt q (by simp [hq])⟩ (fun q hq => hu q (by simp [hq])) r1]
    have := hl p (by simp)
    rintro (k | k | k)
    · omega
    · rw [hb] at k; cases k
    · omega
theorem roll_of {L : Int} (h1 : 1 ≤ L) (h2 : L ≤ 48) {l : List Nd} (hc : Canon l) (hu : InU L l) (hs : sumL l ≤ 72057594037927935) : rollB L l = true := by
  unfold rollB
  rw [right_of h1 h2 l 0 hc hu fun p hp => by have := hu p hp; omega, totF_ok l hc.cntL hs]
  simp [uniB, h1, h2]
theorem load_of {K L kd : Int} {l b : List Nd} {N : Nat} (h : Inv K L l b N) (h1 : 1 ≤ L) (h2 : L ≤ 48) (hK1 : 1 ≤ K) (hK2 : K ≤ 1048576) (hk : kindB kd L = true) : loadB L K kd l = true := by
  unfold loadB confB
  have hsum := h.sum
  have hm : 0 ≤ sumL l / K := Int.ediv_nonneg (sumL_nonneg l h.canon.cntL) (by omega)
  have hroom := h.room
  rw [hk, roll_of h1 h2 h.canon h.inU hsum, (lightB_iff h.canon h.inU hm).2 h.light]
  simp [hK1, hK2, hroom]
/-- All nodes moved, and brought down to one a number. -/
structure Moved (f : Int → Int) (L' : Int) (l S : List Nd) : Prop where
  canon : Canon S
  inU : InU L' S
  sum : sumL S = sumL l
  all : ∀ g, sumM g S = sumM (fun id => g (f id)) l
  len : S.length ≤ l.length
theorem moved_of {f : Int → Int} {L' : Int} {l : List Nd} (hc : Canon l) (hs : sumL l ≤ 72057594037927935) (hf : ∀ p ∈ l, 1 ≤ f p.1 ∧ f p.1 < 2 * pw L') : Moved f L' l (foldF (l.map fun q => (f q.1, q.2))).1 := by
  have hsum : sumL (l.map fun q => (f q.1, q.2)) = sumL l := by rw [sumL_M, sumM_map, ← sumL_M]
  have hg : RollM.Good (l.map fun q => (f q.1, q.2)) := by
    refine ⟨fun p hp => ?_, by rw [hsum]; exact hs, fun p hp => ?_⟩
    · obtain ⟨q, hq, rfl⟩ := List.mem_map.1 hp
      exact Int.le_of_lt (hc.cnt q hq)
    · obtain ⟨q, hq, rfl⟩ := List.mem_map.1 hp
      exact (hf q hq).1
  obtain ⟨S, e, h1, h2, h3, h4, h5⟩ := foldF_good _ hg
  rw [e]
  have hmem : ∀ p ∈ S, ∃ q ∈ l, f q.1 = p.1 := fun p hp => by
    obtain ⟨q, hq, e2⟩ := h5 p hp
    obtain ⟨r, hr, rfl⟩ := List.mem_map.1 hq
    exact ⟨r, hr, e2⟩
  refine ⟨h1, fun p hp => ?_, h3.trans hsum, fun g => ?_, ?_⟩
  · obtain ⟨q, hq, e2⟩ := hmem p hp
    rw [← e2]
    exact hf q hq
  · rw [sumM_ext g _ S (l.map fun q => (f q.1, q.2)) (Nat.le_refl _) h2, sumM_map]
  · have hn : (S.map (·.1)).Nodup := by
      rw [List.Nodup, List.pairwise_map]
      exact h1.rise.imp fun {a b} k e => by omega
    have := nodup_len (S.map (·.1)) (l.map fun q => f q.1) hn fun x hx => by
      obtain ⟨p, hp, rfl⟩ := List.mem_map.1 hx
      obtain ⟨q, hq, e2⟩ := hmem p hp
      exact List.mem_map.2 ⟨q, hq, e2⟩
    simpa using this
theorem moved_wt {f : Int → Int} {L' : Int} {l S : List Nd} (h : Moved f L' l S) (x : Int) : wt x S = sumM (fun id => if f id = x then 1 else 0) l := by
  rw [wt_M, h.all]
theorem graft_of {id k : Int} (h0 : 1 ≤ id) (hk : 0 ≤ k) (hd : lg id + k ≤ 48) : (graftF id k).1 = id - pw (lg id) + pw (lg id + k) := by unfold graftF; rw [if_pos ⟨h0, hk, hd⟩]
theorem prune_of {id k : Int} (h0 : 1 ≤ id) (hk : 0 ≤ k) : (pruneF id k).1 = id / pw (lg id - k) := by unfold pruneF; rw [if_pos ⟨h0, hk⟩]
section
variable {K L : Int} {l b : List Nd} {N : Nat}
theorem grow_moved_of (h : Inv K L l b N) (h1 : 1 ≤ L) {L' : Int} (h2 : L ≤ L') (h3 : L' ≤ 48) : Moved (fun id => (graftF id (L' - L)).1) L' l (growL (L' - L) l) := by
  refine moved_of h.canon h.sum fun p hp => ?_
  obtain ⟨u1, u2⟩ := h.inU p hp
  have hd := (lg_le u1 (show 0 ≤ L by omega)).2 u2
  obtain ⟨g1, g2, _, _, _⟩ := graft_facts h1 u1 u2 (show 0 ≤ L' - L by omega)
  rw [show L + (L' - L) = L' by omega] at g2
  rw [graft_of u1 (by omega) (by omega)]
  exact ⟨g1, g2⟩
theorem graft_ends (h1 : 1 ≤ L) {L' : Int} (h2 : L ≤ L') (h3 : L' ≤ 48) {id : Int} (u1 : 1 ≤ id) (u2 : id < 2 * pw L) : lg (graftF id (L' - L)).1 = lg id + (L' - L) ∧ loF L' (graftF id (L' - L)).1 = loF L id ∧ hiF L' (graftF id (L' - L)).1 = hiF L id := by
  have hd := (lg_le u1 (show 0 ≤ L by omega)).2 u2
  obtain ⟨g1, g2, g3, g4, g5⟩ := graft_facts h1 u1 u2 (show 0 ≤ L' - L by omega)
  rw [graft_of u1 (by omega) (by omega)]
  rw [show L + (L' - L) = L' by omega] at g4 g5
  refine ⟨g3, g4, ?_⟩
  unfold hiF
  rw [g4, g3, show L' - (lg id + (L' - L)) = L - lg id by omega]
theorem graft_inj (h1 : 1 ≤ L) {L' : Int} (h2 : L ≤ L') (h3 : L' ≤ 48) {x y : Int} (u1 : 1 ≤ x) (u2 : x < 2 * pw L) (v1 : 1 ≤ y) (v2 : y < 2 * pw L) (e : (graftF x (L' - L)).1 = (graftF y (L' - L)).1) : x = y := by
  have a := (graft_ends h1 h2 h3 u1 u2).1
  have c := (graft_ends h1 h2 h3 v1 v2).1
  rw [e] at a
  have hd1 := (lg_le u1 (show 0 ≤ L by omega)).2 u2
  have hd2 := (lg_le v1 (show 0 ≤ L by omega)).2 v2
  have e2 : lg x = lg y := by omega
  rw [graft_of u1 (by omega) (by omega), graft_of v1 (by omega) (by omega), e2] at e
  omega
theorem sumM_one {f : Int → Int} {x a : Int} (hc : Cnt l) (h : ∀ p ∈ l, f p.1 = x → p.1 = a) : sumM (fun id => if f id = x then 1 else 0) l ≤ wt a l := by
  rw [wt_M]
  refine sumM_le hc fun p hp => ?_
  split
  · rename_i e
    rw [if_pos (h p hp e)]; omega
  · split <;> omega
theorem Inv.grow (h : Inv K L l b N) (h1 : 1 ≤ L) (hK : 1 ≤ K) {L' : Int} (h2 : L ≤ L') (h3 : L' ≤ 48) : Inv K L' (growL (L' - L) l) b N := by
  have m := grow_moved_of h h1 h2 h3
  have hlen := m.len
  have hl := h.len
  have hroom := h.room
  refine ⟨m.canon, m.inU, ?_, by omega, by omega, h.ok, fun p hp => ?_, h.blen, m.sum.trans h.tot, fun y => ?_, fun y => ?_⟩
  · rw [m.sum]
    intro x i1 i2
    rw [moved_wt m]
    by_cases hex : ∃ p ∈ l, (graftF p.1 (L' - L)).1 = x
    · obtain ⟨p, hp, e⟩ := hex
      obtain ⟨u1, u2⟩ := h.inU p hp
      have hle : sumM (fun id => if (graftF id (L' - L)).1 = x then 1 else 0) l ≤ wt p.1 l := sumM_one (f := fun id => (graftF id (L' - L)).1) h.canon.cntL fun q hq e2 => by
        obtain ⟨v1, v2⟩ := h.inU q hq
        exact graft_inj h1 h2 h3 v1 v2 u1 u2 (e2.trans e.symm)
      have hg := (graft_ends h1 h2 h3 u1 u2).1
      have hlx := (lg_lt i1 (show 0 ≤ L' by omega)).2 i2
      rw [← e, hg] at hlx
      have hp2 := (lg_lt u1 (show 0 ≤ L by omega)).1 (by omega)
      have := h.light p.1 u1 hp2
      omega
    · have hz : sumM (fun id => if (graftF id (L' - L)).1 = x then 1 else 0) l = 0 := by
        rw [sumM_congr (g := fun _ => 0) fun p hp => if_neg fun e => hex ⟨p, hp, e⟩, sumM_zero]
      rw [hz]
      exact Int.ediv_nonneg (sumL_nonneg l h.canon.cntL) (by omega)
  · have := h.inb p hp
    have hm := pw_mono h2
    omega
  · have : lowS L' y (growL (L' - L) l) = lowS L y l := by
      unfold lowS
      rw [m.all]
      refine sumM_congr fun p hp => ?_
      obtain ⟨u1, u2⟩ := h.inU p hp
      rw [(graft_ends h1 h2 h3 u1 u2).2.2]
    rw [this]
    exact h.low y
  · have : highS L' y (growL (L' - L) l) = highS L y l := by
      unfold highS
      rw [m.all]
      refine sumM_congr fun p hp => ?_
      obtain ⟨u1, u2⟩ := h.inU p hp
      rw [(graft_ends h1 h2 h3 u1 u2).2.1]
    rw [this]
    exact h.high y
theorem prune_ends {k : Int} (hk0 : 0 ≤ k) (hk1 : k < L) {id : Int} (u1 : 1 ≤ id) (u2 : id < 2 * pw L) :
    1 ≤ (pruneF id (L - k)).1 ∧ (pruneF id (L - k)).1 < 2 * pw (L - k) ∧ loF (L - k) (pruneF id (L - k)).1 = loF L id / pw k ∧ hiF (L - k) (pruneF id (L - k)).1 = hiF L id / pw k ∧ (lg (pruneF id (L - k)).1 < L - k → (pruneF id (L - k)).1 = id) := by
  rw [prune_of u1 (by omega)]
  by_cases hd : lg id ≤ L - k
  · have e : id / pw (lg id - (L - k)) = id := by rw [pw_neg (by omega), Int.ediv_one]
    obtain ⟨a, c⟩ := prune_same u1 hk0 hd
    rw [e]
    refine ⟨u1, (lg_le u1 (show 0 ≤ L - k by omega)).1 hd, a.symm, ?_, fun _ => rfl⟩
    unfold hiF
    rw [c]
  · obtain ⟨a1, a2, a3, a4, a5⟩ := prune_less u1 u2 hk0 hk1 (by omega)
    refine ⟨a1, a3, a4.symm, ?_, fun q => by omega⟩
    unfold hiF
    rw [a2, ← a5]
theorem div_le_iff (h y P : Int) (hP : 1 ≤ P) : h / P ≤ y ↔ h ≤ (y + 1) * P - 1 := by
  have h1 : h / P ≤ y ↔ h / P < y + 1 := by omega
  rw [h1, Int.ediv_lt_iff_lt_mul (by omega)]
  omega
theorem coar_moved_of (h : Inv K L l b N) {k : Int} (hk0 : 0 ≤ k) (hk1 : k < L) : Moved (fun id => (pruneF id (L - k)).1) (L - k) l (coarL (L - k) l) :=
  moved_of h.canon h.sum fun p hp => by
    obtain ⟨u1, u2⟩ := h.inU p hp
    have := prune_ends hk0 hk1 u1 u2
    exact ⟨this.1, this.2.1⟩
theorem cut_len (k : Int) (r : List Nd) : (BagM.cut k r).length = r.length := by unfold BagM.cut; simp
theorem rank_neg {y : Int} (h : y < 0) (r : List Nd) : BagM.rank y r = 0 := bet_none 0 y h r
theorem image_rank {k : Int} (hk0 : 0 ≤ k) (hi : BagM.In L b) (y : Int) : BagM.rank y (BagM.imageF k b) = BagM.rank ((y + 1) * pw k - 1) b := by
  by_cases hy : 0 ≤ y
  · exact BagM.rank_image k y hk0 hy b hi
  · have hp := pw_pos k
    have : (y + 1) * pw k ≤ 0 := by
      have := Int.mul_le_mul_of_nonneg_right (show y + 1 ≤ 0 by omega) (show 0 ≤ pw k by omega)
      omega
    rw [rank_neg (by omega), rank_neg (by omega)]
theorem image_ok {k : Int} (h : BagM.Ok b) : BagM.Ok (BagM.imageF k b) := by
  refine BagM.putAll_ok _ _ BagM.Ok.nil (fun p hp => ?_) (by rw [BagM.tot_cut]; have := h.most; simp [BagM.tot]; omega)
  unfold BagM.cut at hp
  obtain ⟨q, hq, rfl⟩ := List.mem_map.1 hp
  exact h.pos q hq
theorem Inv.coarsen (h : Inv K L l b N) (hL : L ≤ 48) (hK : 1 ≤ K) {k : Int} (hk0 : 0 ≤ k) (hk1 : k < L) : Inv K (L - k) (coarL (L - k) l) (BagM.imageF k b) N := by
  have m := coar_moved_of h hk0 hk1
  have hlen := m.len
  have hl := h.len
  have hroom := h.room
  have hbl : (BagM.imageF k b).length ≤ b.length := by
    have := BagM.putAll_len (BagM.cut k b) []
    rw [cut_len] at this
    simpa [BagM.imageF] using this
  have hbl2 := h.blen
  have hP := pw_pos k
  refine ⟨m.canon, m.inU, ?_, by omega, by omega, image_ok h.ok, BagM.image_in hk0 (by omega) b h.inb, by omega, ?_, fun y => ?_, fun y => ?_⟩
  · rw [m.sum]
    intro x i1 i2
    rw [moved_wt m]
    have hlx := (lg_lt i1 (show 0 ≤ L - k by omega)).2 i2
    have hle : sumM (fun id => if (pruneF id (L - k)).1 = x then 1 else 0) l ≤ wt x l := sumM_one (f := fun id => (pruneF id (L - k)).1) h.canon.cntL fun q hq e => by
      obtain ⟨v1, v2⟩ := h.inU q hq
      have := (prune_ends hk0 hk1 v1 v2).2.2.2.2 (by rw [e]; exact hlx)
      rw [← this]; exact e
    have hm := pw_mono (show L - k ≤ L by omega)
    have := h.light x i1 (by omega)
    omega
  · rw [m.sum, h.tot, BagM.tot_image]
  · have : lowS (L - k) y (coarL (L - k) l) = lowS L ((y + 1) * pw k - 1) l := by
      unfold lowS
      rw [m.all]
      refine sumM_congr fun p hp => ?_
      obtain ⟨u1, u2⟩ := h.inU p hp
      rw [(prune_ends hk0 hk1 u1 u2).2.2.2.1]
      have := div_le_iff (hiF L p.1) y (pw k) hP
      by_cases q : hiF L p.1 / pw k ≤ y
      · rw [if_pos q, if_pos (this.1 q)]
      · rw [if_neg q, if_neg fun z => q (this.2 z)]
    rw [this, image_rank hk0 h.inb]
    exact h.low _
  · have : highS (L - k) y (coarL (L - k) l) = highS L ((y + 1) * pw k - 1) l := by
      unfold highS
      rw [m.all]
      refine sumM_congr fun p hp => ?_
      obtain ⟨u1, u2⟩ := h.inU p hp
      rw [(prune_ends hk0 hk1 u1 u2).2.2.1]
      have := div_le_iff (loF L p.1) y (pw k) hP
      by_cases q : loF L p.1 / pw k ≤ y
      · rw [if_pos q, if_pos (this.1 q)]
      · rw [if_neg q, if_neg fun z => q (this.2 z)]
    rw [this, image_rank hk0 h.inb]
    exact h.high _
/-- Bounds of what moves. -/
theorem wf_of {S : List Nd} {L' : Int} (hc : Canon S) (hu : InU L' S) (hL : L' ≤ 48) (hs : sumL S ≤ 72057594037927935) : NdWf S := fun p hp => by
  have h1 := hu p hp
  have h2 := pw_le48 hL
  have h3 := hc.cnt p hp
  have h4 := sumL_le S hc.cntL p hp
  omega
theorem wf_map {f : Int → Int} {L' : Int} (hc : Canon l) (hs : sumL l ≤ 72057594037927935) (hL : L' ≤ 48) (hf : ∀ p ∈ l, 1 ≤ f p.1 ∧ f p.1 < 2 * pw L') : NdWf (l.map fun q => (f q.1, q.2)) := fun p hp => by
  obtain ⟨q, hq, rfl⟩ := List.mem_map.1 hp
  have h1 := hf q hq
  have h2 := pw_le48 hL
  have h3 := hc.cnt q hq
  have h4 := sumL_le l hc.cntL q hq
  simp only []
  omega
end
/-- A call of a digest: which, and of what. -/
abbrev Op := Int × Int × Int
/-- What a call leaves: of the nodes, and of the bag of all. -/
def opF (K L : Int) (s : List Nd × List Nd) (o : Op) : List Nd × List Nd :=
  if o.1 = 1 then ((pressF L K s.1).1, s.2) else if o.1 = 2 then ([], []) else if insE L o.2.1 o.2.2 (sumL s.1) = 0 then (insF L K o.2.1 o.2.2 s.1, BagM.put o.2.1 o.2.2 s.2) else s
def accF (K L : Int) (s : List Nd × List Nd) : List Op → List Nd × List Nd
  | [] => s
  | o :: r => accF K L (opF K L s o) r
theorem opF_one {K L : Int} {s : List Nd × List Nd} {o : Op} (h : o.1 = 1) : opF K L s o = ((pressF L K s.1).1, s.2) := if_pos h
theorem opF_two {K L : Int} {s : List Nd × List Nd} {o : Op} (h : o.1 = 2) : opF K L s o = ([], []) := by unfold opF; rw [if_neg (by omega), if_pos h]
theorem opF_ins {K L : Int} {s : List Nd × List Nd} {o : Op} (h1 : o.1 ≠ 1) (h2 : o.1 ≠ 2) (h : insE L o.2.1 o.2.2 (sumL s.1) = 0) : opF K L s o = (insF L K o.2.1 o.2.2 s.1, BagM.put o.2.1 o.2.2 s.2) := by unfold opF; rw [if_neg h1, if_neg h2, if_pos h]
theorem opF_no {K L : Int} {s : List Nd × List Nd} {o : Op} (h1 : o.1 ≠ 1) (h2 : o.1 ≠ 2) (h : insE L o.2.1 o.2.2 (sumL s.1) ≠ 0) : opF K L s o = s := by unfold opF; rw [if_neg h1, if_neg h2, if_neg h]
theorem Inv.op {K L : Int} {s : List Nd × List Nd} {N : Nat} (h : Inv K L s.1 s.2 N) (hL : 1 ≤ L) (hK : 1 ≤ K) (o : Op) : Inv K L (opF K L s o).1 (opF K L s o).2 (N + 1) := by
  by_cases h1 : o.1 = 1
  · rw [opF_one h1]
    exact (h.press hL hK).1.more (by omega)
  · by_cases h2 : o.1 = 2
    · rw [opF_two h2]
      exact Inv.nil hK _
    · by_cases h3 : insE L o.2.1 o.2.2 (sumL s.1) = 0
      · rw [opF_ins h1 h2 h3]
        exact h.insert hL hK h3
      · rw [opF_no h1 h2 h3]
        exact h.more (by omega)
theorem Inv.acc {K L : Int} (hL : 1 ≤ L) (hK : 1 ≤ K) : ∀ (r : List Op) (s : List Nd × List Nd) (N : Nat), Inv K L s.1 s.2 N → Inv K L (accF K L s r).1 (accF K L s r).2 (N + r.length)
  | [], s, N, h => h
  | o :: r, s, N, h => by
    have := Inv.acc hL hK r (opF K L s o) (N + 1) (h.op hL hK o)
    rw [accF]
    exact this.more (by simp only [List.length_cons]; omega)
/-- What is accepted is accepted of the bag. -/
theorem add_of {K L : Int} {l b : List Nd} {N : Nat} (h : Inv K L l b N) {x c : Int} (hi : insE L x c (sumL l) = 0) : BagM.addF L b x c = (BagM.put x c b, 0) ∧ 0 ≤ x ∧ x < pw L ∧ 1 ≤ c ∧ sumL l + c ≤ 72057594037927935 := by
  unfold insE at hi
  have hx : 0 ≤ x ∧ x < pw L := by
    by_cases k : 0 ≤ x ∧ x < pw L
    · exact k
    · rw [if_neg k] at hi; omega
  rw [if_pos hx] at hi
  have hc : ¬ c < 1 := fun k => by rw [if_pos k] at hi; omega
  rw [if_neg hc] at hi
  have hs : ¬ 72057594037927935 < sumL l + c := fun k => by rw [if_pos k] at hi; omega
  have ht := h.tot
  refine ⟨?_, hx.1, hx.2, by omega, by omega⟩
  unfold BagM.addF
  rw [if_neg (by omega), if_neg hc, if_neg (by omega)]
end TopM
end Go.Proofs.YteebghoijaaakaaGreat
/- Plain facts on what a digest stands for, on: lowered to a lesser k, merged with another one; how many nodes a small universe has. No program's step in sight. By the prover of this repo. -/
namespace Go.Proofs.YteebghoijaaakaaGreat
namespace TopM
open TwigM RollM StoM Go.RowKit

theorem ids_len {M : Int} : ∀ (n : Nat) (l : List Nd) (a : Int), l.length ≤ n → (l.Pairwise fun p q => p.1 < q.1) → (∀ p ∈ l, a ≤ p.1 ∧ p.1 < M) → (l.length : Int) ≤ max 0 (M - a)
  | _, [], _, _, _, _ => by simp; omega
  | 0, p :: l, _, h, _, _ => by simp at h
  | n + 1, p :: l, a, h, hr, hb => by
    obtain ⟨h1, h2⟩ := List.pairwise_cons.1 hr
    have hp := hb p (by simp)
    have ih := ids_len (M := M) n l (p.1 + 1) (by simpa using h) h2 fun q hq => ⟨by have := h1 q hq; omega, (hb q (by simp [hq])).2⟩
    simp only [List.length_cons]
    omega
theorem pw_ten {L : Int} (h : L ≤ 10) : pw L ≤ 1024 := by
  have := pw_mono h
  have e : pw 10 = 1024 := rfl
  omega
section
variable {K L : Int} {l b : List Nd} {N : Nat}
theorem Inv.small (h : Inv K L l b N) (hL : L ≤ 10) : Inv K L l b 2048 := by
  have hp := pw_ten hL
  have h1 := ids_len (M := 2 * pw L) l.length l 1 (Nat.le_refl _) h.canon.rise h.inU
  have h2 := ids_len (M := pw L) b.length b 0 (Nat.le_refl _) h.ok.rise h.inb
  exact ⟨h.canon, h.inU, h.light, h.room, by omega, h.ok, h.inb, by omega, h.tot, h.low, h.high⟩
/-- Lowered to a lesser k. -/
theorem Inv.lower (h : Inv K L l b N) (hL : 1 ≤ L) {k : Int} (h1 : 1 ≤ k) (h2 : k ≤ K) : Inv k L (pressF L k l).1 b N ∧ ((pressF L k l).1.length : Int) ≤ 4 * k - 1 := by
  obtain ⟨q, q1, q2⟩ := press_all hL h1 h.canon h.inU
  have hlen := h.len
  have hs := sumL_nonneg l h.canon.cntL
  refine ⟨⟨q.canon, q.inU, ?_, by omega, by omega, h.ok, h.inb, h.blen, q.sum.trans h.tot, fun y => Int.le_trans (q.low y) (h.low y), fun y => Int.le_trans (h.high y) (q.high y)⟩, q2⟩
  rw [q.sum]
  refine q.light fun id i1 i2 => Int.le_trans (h.light id i1 i2) ?_
  exact Int.le_ediv_of_mul_le (by omega) (Int.le_trans (Int.mul_le_mul_of_nonneg_left h2 (Int.ediv_nonneg hs (by omega))) (Int.ediv_mul_le _ (by omega)))
theorem sumM_app (g : Int → Int) : ∀ a b : List Nd, sumM g (a ++ b) = sumM g a + sumM g b
  | [], b => by simp [sumM]
  | p :: a, b => by rw [List.cons_append, sumM, sumM, sumM_app g a b]; omega
end
/-- Two with the same k, joined. -/
theorem Inv.join {k L : Int} {a b ba bb : List Nd} {N M : Nat} (h : Inv k L a ba N) (g : Inv k L b bb M) (hk : 1 ≤ k) (ha : (a.length : Int) ≤ 4 * k - 1) (hb : (b.length : Int) ≤ 4 * k - 1) (hs : sumL a + sumL b ≤ 72057594037927935) :
    Inv k L (joinF a b).1 (BagM.putAll ba bb) (N + M) := by
  have hg : RollM.Good (a ++ b) := by
    refine ⟨cnt_append.2 ⟨h.canon.cntL, g.canon.cntL⟩, by rw [sumL_append]; exact hs, ids_append.2 ⟨fun p hp => (h.inU p hp).1, fun p hp => (g.inU p hp).1⟩⟩
  obtain ⟨S, e, s1, s2, s3, s4, s5⟩ := foldF_good _ hg
  have e : (joinF a b).1 = S := by unfold joinF; rw [e]
  rw [e]
  have hn : S.length ≤ (a ++ b).length := by
    have hnd : (S.map (·.1)).Nodup := by
      rw [List.Nodup, List.pairwise_map]
      exact s1.rise.imp fun {x y} q e => by omega
    have := nodup_len (S.map (·.1)) ((a ++ b).map (·.1)) hnd fun x hx => by
      obtain ⟨p, hp, rfl⟩ := List.mem_map.1 hx
      obtain ⟨q, hq, e2⟩ := s5 p hp
      exact List.mem_map.2 ⟨q, hq, e2⟩
    simpa using this
  rw [List.length_append] at hn
  have hall : ∀ f, sumM f S = sumM f a + sumM f b := fun f => by
    rw [sumM_ext f _ S (a ++ b) (Nat.le_refl _) s2, sumM_app]
  have ht1 := h.tot
  have ht2 := g.tot
  have hl1 := h.len
  have hl2 := g.len
  have hb1 := h.blen
  have hb2 := g.blen
  have hpl := BagM.putAll_len bb ba
  rw [sumL_append] at s3
  refine ⟨s1, fun p hp => ?_, ?_, by omega, by omega, BagM.putAll_ok bb ba h.ok g.ok.pos (by omega), BagM.putAll_in bb ba h.inb g.inb, by omega, by rw [s3, BagM.tot_putAll]; omega, fun y => ?_, fun y => ?_⟩
  · obtain ⟨q, hq, e2⟩ := s5 p hp
    rw [← e2]
    rcases List.mem_append.1 hq with k | k
    · exact h.inU q k
    · exact g.inU q k
  · intro id i1 i2
    rw [s2, wt_append, s3]
    have w1 := h.light id i1 i2
    have w2 := g.light id i1 i2
    have n1 := sumL_nonneg a h.canon.cntL
    have n2 := sumL_nonneg b g.canon.cntL
    have : sumL a / k + sumL b / k ≤ (sumL a + sumL b) / k := by
      refine Int.le_ediv_of_mul_le (by omega) ?_
      have m1 := Int.ediv_mul_le (sumL a) (show k ≠ 0 by omega)
      have m2 := Int.ediv_mul_le (sumL b) (show k ≠ 0 by omega)
      rw [Int.add_mul]; omega
    omega
  · rw [BagM.rank_pour]
    have q1 := h.low y
    have q2 := g.low y
    unfold lowS at q1 q2 ⊢
    rw [hall]; omega
  · rw [BagM.rank_pour]
    have q1 := h.high y
    have q2 := g.high y
    unfold highS at q1 q2 ⊢
    rw [hall]; omega
end TopM
end Go.Proofs.YteebghoijaaakaaGreat
/- The walks of layer 14: a digest's nodes, folded for a lesser k; a digest of a lesser k. By the prover of this repo. -/
namespace Go.Proofs.YteebghoijaaakaaGreat
open Go.RowKit
open TwigM RollM StoM

theorem own_rdn {w : World} {base n : Nat} {A : Option Addr} {c : Nat} {l : List Nd} (h : w.ownsRow base 67 2 (.slice A n c) n (ndv l)) (hn : l.length = n) : Rd w A n 2 (ndc l) := by
  subst hn
  obtain ⟨A', c', e, -, -, -, hr⟩ := own_nds h
  cases e
  exact hr
theorem kind_ok {w : World} {p : Nat} {kd L : Int} {l : List Nd} {F : Nat → Prop} (h : PoolAt w p kd L l F) : kindB kd L = true := by
  rcases h.two with ⟨rfl, h1, h2⟩ | ⟨rfl, h1, h2⟩ <;> simp [kindB, h1, h2]
set_option maxRecDepth 100000 in
set_option maxHeartbeats 1000000 in
theorem lowered_c (d p : Nat) (K kd L k : Int) (l : List Nd) (F : Nat → Prop) (w : World) (h : DigAt w d p K kd L l F) (hk1 : 1 ≤ k) (hk2 : k ≤ 1048576) (hms : meas l (startF l) ≤ 10000000) :
    Calls Tryz.prog 56 #[.pointer (some ⟨d, 0, none⟩), .int .i64 k] w fun e w' => ∃ v, e = .returned v ∧ w'.ownsRow w.heap.size 67 2 v (pressF L k l).1.length (ndv (pressF L k l).1) ∧ Below w.heap.size w w' := by
  obtain ⟨hL1, hL2⟩ := h.pool.uni
  have hwf := TopM.wf_of h.pool.canon h.pool.inU hL2 h.pool.sum
  have hro := TopM.roll_of hL1 hL2 h.pool.canon h.pool.inU h.pool.sum
  have hkd := kind_ok h.pool
  have hll := h.pool.len
  have hCf := hide (digest_conf d p K kd L l F w h)
  have hN := hide (fun W (hW : Below w.heap.size w W) => digest_nodes d p K kd L l F W (h.kept hW))
  have hLd := hide (fun (A : Option Addr) (c : Nat) (W : World) (hr : Rd W A l.length 2 (ndc l)) => pool_load kd L A c l W hr hll hwf hkd hro)
  obtain ⟨n, hn⟩ : ∃ n, Hid (l.length = n) := ⟨_, rfl⟩
  rw [hn.out] at hN hLd
  replace hms := hide hms
  clear h hwf hro hkd hll
  unfold conf at hCf
  go_enter Tryz.func56, Tryz.ntmps56
  go_wp2_with fail
  refine Calls.mono hCf.out ?_
  rintro e w1 ⟨rfl, hb1⟩
  have hz1 := hb1.size
  have hb1h := hide (balloc hb1 (.cells #[.int .i64 L, .int .i64 K, .int .i64 kd] 42))
  have hC1 := hide (Blk.made w1 42 #[.int .i64 L, .int .i64 K, .int .i64 kd])
  clear hb1
  go_wp2_with fail
  go_region_with (first
    | (go_at_call 28; (with_reducible refine (hN.out _ hb1h.out.drew).mono ?_); rintro e w2 ⟨v, rfl, hv, hb2⟩; obtain ⟨A, c, rfl, r1, r2, r3⟩ := own_form hv; have hb2' := (Below.refl _ _).drew.trans hb2; have y0 := (hC1.out.kept hb2').cell 0; have y2 := (hC1.out.kept hb2').cell 2; have hv := hide hv; have hb2 := hide hb2; clear hb2')
    | (go_at_call 99; (with_reducible refine (hLd.out _ _ _ (own_rdn hv.out hn.out)).mono ?_); rintro e w3 ⟨q, G, rfl, hp3, hq3, hG3, hb3⟩; have hp3 := hide hp3; have hG3 := hide hG3; have hb3 := hide hb3))
  all_goals
    have hz2 := hb2.out.size
    have hz3 := hb3.out.size
    have hzA : w.heap.size ≤ w2.heap.size := Nat.le_trans hb1h.out.size hz2
    have hR := hide (press_Run q kd L k l G w3 hp3.out hk1 hk2 hms.out)
    have hb23 := hide ((hb1h.out.drew.trans (hb2.out.mono hb1h.out.size)).trans (hb3.out.mono hzA))
    clear y0 y2
    go_wp2_with fail
    refine Calls.mono hR.out ?_
    rintro e w4 ⟨rfl, G', hp4, ht4, hG4⟩
    have hS := hide (pool_snap q kd L (pressF L k l).1 G' w4 hp4)
    have hz4 := ht4.size
    have hb4 := hide (hb23.out.trans (ht4.below w.heap.size (by omega) fun j hj e => by have := hG3.out j e; omega))
    clear hp4 ht4
    go_wp2_with fail
    refine Calls.mono hS.out ?_
    rintro e w5 ⟨v5, rfl, hv5, hb5⟩
    have hv5 := hide (own_low (by omega : w.heap.size ≤ w4.heap.size) hv5)
    have hb5 := hide (hb4.out.trans (hb5.mono (by omega)))
    go_wp2_with fail
    go_ret
    exact ⟨_, rfl, hv5.out, hb5.out⟩
end Go.Proofs.YteebghoijaaakaaGreat

/- Part 14 of the proof: texts joined by this repo's tools/merge2.py (DigB DigC DigD DigF). By the prover of this repo. -/
import Derived.Test.YteebghoijaaakaaGreatM13
import Derived.Deep.RegionWith
set_option linter.unusedVariables false
set_option linter.unusedSimpArgs false
/- The walks of digest.*, on: Compress. By the prover of this repo. -/
namespace Go.Proofs.YteebghoijaaakaaGreat
open Go.RowKit
open TwigM RollM StoM

theorem DigAt.turned {w w' : World} {d p : Nat} {K kd L : Int} {l l' : List Nd} {F F' : Nat → Prop} (h : DigAt w d p K kd L l F) (hp : PoolAt w' p kd L l' F') (t : Turn F w w') (hF : ∀ j, F' j → F j ∨ w.heap.size ≤ j) : DigAt w' d p K kd L l' F' := by
  have hd := h.lt.1
  refine ⟨h.blk.turned t h.ndF, hp, h.ndp, fun k => ?_, h.k1, h.k2⟩
  rcases hF d k with q | q
  · exact h.ndF q
  · omega
set_option maxRecDepth 100000 in
theorem digest_compress (d p : Nat) (K kd L : Int) (l : List Nd) (F : Nat → Prop) (w : World) (h : DigAt w d p K kd L l F) (hms : meas l (startF l) ≤ 10000000) :
    Calls Tryz.prog 17 #[.pointer (some ⟨d, 0, none⟩)] w fun e w' => e = .returned (.int .i64 ((pressF L K l).2 : Int)) ∧ ∃ F', DigAt w' d p K kd L (pressF L K l).1 F' ∧ Turn F w w' ∧ ∀ j, F' j → F j ∨ w.heap.size ≤ j := by
  have c0 := h.blk.cell 0
  have c1 := h.blk.cell 1
  have hR := hide (fun W (hW : Below w.heap.size w W) => press_Run p kd L K l F W (h.pool.kept hW) h.k1 h.k2 hms)
  have hh := hide h
  clear h hms
  generalize pressF L K l = RC at *
  obtain ⟨l', c⟩ := RC
  simp only at hR ⊢
  go_enter Tryz.func17, Tryz.ntmps17
  go_wp2_with fail
  go_region_with (go_at_call 51; (with_reducible refine (hR.out _ ?_).mono ?_); (first | exact Below.refl _ _ | exact (Below.refl _ _).drew); rintro e w1 ⟨rfl, F', h1, h2, h3⟩; have q := hide (show ∃ F', DigAt w1 d p K kd L l' F' ∧ Turn F w w1 ∧ ∀ j, F' j → F j ∨ w.heap.size ≤ j from ⟨F', hh.out.turned h1 ⟨h2.os, h2.tape, h2.output, h2.size, h2.block⟩ h3, ⟨h2.os, h2.tape, h2.output, h2.size, h2.block⟩, h3⟩); clear h1 h2 h3)
  all_goals
    go_wp2_with fail
    go_ret
    exact ⟨rfl, q.out⟩
end Go.Proofs.YteebghoijaaakaaGreat
/- The walks of digest.*, on: Insert. By the prover of this repo. -/
namespace Go.Proofs.YteebghoijaaakaaGreat
open Go.RowKit
open TwigM RollM StoM

/-- The nodes once a value is put there. -/
def roomF (L K leaf : Int) (l : List Nd) : List Nd := if wt leaf l = 0 ∧ 8 * K ≤ (l.length : Int) then (pressF L K l).1 else l
def insF (L K x c : Int) (l : List Nd) : List Nd := addS (pw L + x) c (roomF L K (pw L + x) l)
theorem leaf_ok {L x : Int} (h1 : 1 ≤ L) (h2 : L ≤ 48) (h3 : 0 ≤ x) (h4 : x < pw L) : leafF L x = (pw L + x, true) := if_pos ⟨h1, h2, h3, h4⟩
theorem leaf_not {L x : Int} (h : ¬ (0 ≤ x ∧ x < pw L)) : leafF L x = (0, false) := if_neg fun k => h k.2.2
set_option maxRecDepth 100000 in
set_option maxHeartbeats 1000000 in
theorem digest_insert (d p : Nat) (K kd L x c : Int) (l : List Nd) (F : Nat → Prop) (w : World) (h : DigAt w d p K kd L l F) (hx1 : 0 ≤ x) (hx2 : x < pw L) (hc1 : 1 ≤ c) (hc2 : sumL l + c ≤ 72057594037927935) (hms : meas l (startF l) ≤ 10000000) (hll : l.length < 1000000) :
    Calls Tryz.prog 14 #[.pointer (some ⟨d, 0, none⟩), .int .i64 x, .int .i64 c] w fun e w' => e = .returned (.int .i64 0) ∧ ∃ F', DigAt w' d p K kd L (insF L K x c l) F' ∧ Turn F w w' ∧ ∀ j, F' j → F j ∨ w.heap.size ≤ j := by
  obtain ⟨hL1, hL2⟩ := h.pool.uni
  have hp48 := pw_le48 hL2
  have hpp := pw_pos L
  have hK1 := h.k1
  have hK2 := h.k2
  have c0 := h.blk.cell 0
  have c1 := h.blk.cell 1
  have hkp := hide (fun W (hW : Below w.heap.size w W) => h.kept hW)
  have hl := hide (fun W (hW : Below w.heap.size w W) => pool_l p kd L l F W (h.pool.kept hW))
  have hT := hide (fun W (hW : Below w.heap.size w W) => pool_total p kd L l F W (h.pool.kept hW))
  have hLf := hide (fun W => leaf_c L x W (by omega))
  rw [leaf_ok hL1 hL2 hx1 hx2] at hLf
  have hA : ∀ (W : World) (l2 : List Nd) (F2 : Nat → Prop), PoolAt W p kd L l2 F2 → sumL l2 = sumL l → l2.length ≤ l.length → Calls Tryz.prog 43 #[.pointer (some ⟨p, 0, none⟩), .int .i64 (pw L + x), .int .i64 c] W fun e w' => e = .returned (.int .i64 0) ∧ ∃ F', PoolAt w' p kd L (addS (pw L + x) c l2) F' ∧ Turn F2 W w' ∧ ∀ j, F' j → F2 j ∨ W.heap.size ≤ j := by
    intro W l2 F2 hp hs hn
    refine pool_add p kd L (pw L + x) c l2 F2 W hp (by omega) (by omega) (by omega) (by rw [hs]; exact hc2) ?_
    rw [len_addS hp.canon _ (by omega)]
    split <;> omega
  replace hA := hide hA
  have hpa := press_all hL1 hK1 h.pool.canon h.pool.inU
  unfold insF roomF
  have hh := hide h
  clear h
  have hs0 := sumL_nonneg l hh.out.pool.canon.cntL
  have hCm := hide (fun W (hW : DigAt W d p K kd L l F) => digest_compress d p K kd L l F W hW hms)
  have hpa : Hid (sumL (pressF L K l).1 = sumL l ∧ (pressF L K l).1.length ≤ l.length) := ⟨hpa.1.sum, hpa.2.1⟩
  clear hms
  by_cases hz : wt (pw L + x) l = 0
  · by_cases hn : 8 * K ≤ (l.length : Int)
    · rw [if_pos ⟨hz, hn⟩]
      go_enter Tryz.func14, Tryz.ntmps14
      go_wp2_with fail
      refine Calls.mono (hl.out _ (Below.refl _ _)) ?_
      rintro e w1 ⟨rfl, hb1⟩
      clear c1
      have c1 := (hkp.out _ hb1).blk.cell 1
      have hb1 := hide hb1
      go_wp2_with fail
      refine Calls.mono (hLf.out _) ?_
      rintro e w2 ⟨rfl, rfl⟩
      go_wp2_with fail
      refine Calls.mono (hT.out _ hb1.out) ?_
      rintro e w2 ⟨rfl, hb2⟩
      have hb2 := hide (hb1.out.trans (hb2.mono hb1.out.size))
      clear c1 hb1
      have hD2 := hide (hkp.out _ hb2.out)
      have c0 := hD2.out.blk.cell 0
      have c1 := hD2.out.blk.cell 1
      have hd2 := hD2.out.lt.1
      go_wp2_with fail
      have hG := hide (fun (e : Later w2.heap.size w2) => pool_get p kd L (pw L + x) l F e.val (hD2.out.pool.kept e.property) (by omega))
      have hLn := hide (fun (e : Later w2.heap.size w2) => digest_len d p K kd L l F e.val (hD2.out.kept e.property))
      have hRm := hide (fun (e : Later w2.heap.size w2) => digest_room K e.val hK1 hK2)
      rw [hz] at hG
      refine wp_region_later (by kernel_rfl) (by kernel_rfl) ?_
      repeat (go_big_quiet_step (first
        | (go_at_call 41; exact calls_later (hG.out _))
        | (go_at_call 18; exact calls_later (hLn.out _))
        | (go_at_call 42; exact calls_later (hRm.out _))
        | exact rfl))
      refine wpQuiet_nil ?_
      rintro _ ⟨e3, rfl⟩
      have hD3 := hide (hD2.out.kept e3.property)
      have hb3 := hide (hb2.out.trans (e3.property.mono hb2.out.size))
      clear c0 c1 hd2
      have c1 := hD3.out.blk.cell 1
      generalize e3.val = w3 at *
      go_wp2_with fail
      refine Calls.mono (hCm.out w3 hD3.out) ?_
      rintro e w4 ⟨rfl, F1, h1, h2, h3⟩
      have hD4 := hide h1
      have ht4 := hide (show Turn F w w4 from (Below.turn hb3.out F).trans h2 fun _ _ k => k)
      have hf4 := hide (show ∀ j, F1 j → F j ∨ w.heap.size ≤ j from fun j hj => (h3 j hj).elim .inl fun k => .inr (Nat.le_trans hb3.out.size k))
      clear h1 h2 h3 c1
      have c1 := hD4.out.blk.cell 1
      go_wp2_with fail
      refine Calls.mono (hA.out w4 (pressF L K l).1 F1 hD4.out.pool hpa.out.1 hpa.out.2) ?_
      rintro e w5 ⟨rfl, F', h1, h2, h3⟩
      have q := hide (hD4.out.turned h1 h2 h3)
      have ht := hide (show Turn F w w5 from ht4.out.trans h2 fun j hj k => (hf4.out j k).elim id fun k => absurd hj (by omega))
      have hf := hide (show ∀ j, F' j → F j ∨ w.heap.size ≤ j from fun j hj => (h3 j hj).elim (hf4.out j) fun k => .inr (Nat.le_trans ht4.out.size k))
      clear h1 h2 h3
      go_wp2_with fail
      go_ret
      exact ⟨rfl, F', q.out, ht.out, hf.out⟩
    · rw [if_neg (fun k => hn k.2)]
      go_enter Tryz.func14, Tryz.ntmps14
      go_wp2_with fail
      refine Calls.mono (hl.out _ (Below.refl _ _)) ?_
      rintro e w1 ⟨rfl, hb1⟩
      clear c1
      have c1 := (hkp.out _ hb1).blk.cell 1
      have hb1 := hide hb1
      go_wp2_with fail
      refine Calls.mono (hLf.out _) ?_
      rintro e w2 ⟨rfl, rfl⟩
      go_wp2_with fail
      refine Calls.mono (hT.out _ hb1.out) ?_
      rintro e w2 ⟨rfl, hb2⟩
      have hb2 := hide (hb1.out.trans (hb2.mono hb1.out.size))
      clear c1 hb1
      have hD2 := hide (hkp.out _ hb2.out)
      have c0 := hD2.out.blk.cell 0
      have c1 := hD2.out.blk.cell 1
      have hd2 := hD2.out.lt.1
      go_wp2_with fail
      have hG := hide (fun (e : Later w2.heap.size w2) => pool_get p kd L (pw L + x) l F e.val (hD2.out.pool.kept e.property) (by omega))
      have hLn := hide (fun (e : Later w2.heap.size w2) => digest_len d p K kd L l F e.val (hD2.out.kept e.property))
      have hRm := hide (fun (e : Later w2.heap.size w2) => digest_room K e.val hK1 hK2)
      rw [hz] at hG
      refine wp_region_later (by kernel_rfl) (by kernel_rfl) ?_
      repeat (go_big_quiet_step (first
        | (go_at_call 41; exact calls_later (hG.out _))
        | (go_at_call 18; exact calls_later (hLn.out _))
        | (go_at_call 42; exact calls_later (hRm.out _))
        | exact rfl))
      refine wpQuiet_nil ?_
      rintro _ ⟨e3, rfl⟩
      have hD3 := hide (hD2.out.kept e3.property)
      have hb3 := hide (hb2.out.trans (e3.property.mono hb2.out.size))
      clear c0 c1 hd2
      have c1 := hD3.out.blk.cell 1
      generalize e3.val = w3 at *
      go_wp2_with fail
      refine Calls.mono (hA.out w3 l F hD3.out.pool rfl (Nat.le_refl _)) ?_
      rintro e w4 ⟨rfl, F', h1, h2, h3⟩
      have q := hide (hD3.out.turned h1 h2 h3)
      have ht := hide (show Turn F w w4 from (Below.turn hb3.out F).trans h2 fun _ _ k => k)
      have hf := hide (show ∀ j, F' j → F j ∨ w.heap.size ≤ j from fun j hj => (h3 j hj).elim .inl fun k => .inr (Nat.le_trans hb3.out.size k))
      clear h1 h2 h3
      go_wp2_with fail
      go_ret
      exact ⟨rfl, F', q.out, ht.out, hf.out⟩
  · rw [if_neg (fun k => hz k.1)]
    have hz2 : (wt (pw L + x) l == 0) = false := by simpa using hz
    go_enter Tryz.func14, Tryz.ntmps14
    go_wp2_with fail
    refine Calls.mono (hl.out _ (Below.refl _ _)) ?_
    rintro e w1 ⟨rfl, hb1⟩
    clear c1
    have c1 := (hkp.out _ hb1).blk.cell 1
    have hb1 := hide hb1
    go_wp2_with fail
    refine Calls.mono (hLf.out _) ?_
    rintro e w2 ⟨rfl, rfl⟩
    go_wp2_with fail
    refine Calls.mono (hT.out _ hb1.out) ?_
    rintro e w2 ⟨rfl, hb2⟩
    have hb2 := hide (hb1.out.trans (hb2.mono hb1.out.size))
    clear c1 hb1
    have hD2 := hide (hkp.out _ hb2.out)
    have c0 := hD2.out.blk.cell 0
    have c1 := hD2.out.blk.cell 1
    have hd2 := hD2.out.lt.1
    go_wp2_with fail
    have hG := hide (fun (e : Later w2.heap.size w2) => pool_get p kd L (pw L + x) l F e.val (hD2.out.pool.kept e.property) (by omega))
    have hLn := hide (fun (e : Later w2.heap.size w2) => digest_len d p K kd L l F e.val (hD2.out.kept e.property))
    have hRm := hide (fun (e : Later w2.heap.size w2) => digest_room K e.val hK1 hK2)
    generalize wt (pw L + x) l = z at *
    refine wp_region_later (by kernel_rfl) (by kernel_rfl) ?_
    repeat (go_big_quiet_step (first
      | (go_at_call 41; exact calls_later (hG.out _))
      | (go_at_call 18; exact calls_later (hLn.out _))
      | (go_at_call 42; exact calls_later (hRm.out _))
      | exact rfl))
    refine wpQuiet_nil ?_
    rintro _ ⟨e3, rfl⟩
    have hD3 := hide (hD2.out.kept e3.property)
    have hb3 := hide (hb2.out.trans (e3.property.mono hb2.out.size))
    clear c0 c1 hd2
    have c1 := hD3.out.blk.cell 1
    generalize e3.val = w3 at *
    go_wp2_with fail
    refine Calls.mono (hA.out w3 l F hD3.out.pool rfl (Nat.le_refl _)) ?_
    rintro e w4 ⟨rfl, F', h1, h2, h3⟩
    have q := hide (hD3.out.turned h1 h2 h3)
    have ht := hide (show Turn F w w4 from (Below.turn hb3.out F).trans h2 fun _ _ k => k)
    have hf := hide (show ∀ j, F' j → F j ∨ w.heap.size ≤ j from fun j hj => (h3 j hj).elim .inl fun k => .inr (Nat.le_trans hb3.out.size k))
    clear h1 h2 h3
    go_wp2_with fail
    go_ret
    exact ⟨rfl, F', q.out, ht.out, hf.out⟩
end Go.Proofs.YteebghoijaaakaaGreat
/- The walks of digest.*, on: what Insert refuses; Reset; Conf. By the prover of this repo. -/
namespace Go.Proofs.YteebghoijaaakaaGreat
open Go.RowKit
open TwigM RollM StoM

def insE (L x c t : Int) : Int := if 0 ≤ x ∧ x < pw L then (if c < 1 then 4 else if 72057594037927935 < t + c then 5 else 0) else 3
set_option maxRecDepth 100000 in
theorem digest_insert_no (d p : Nat) (K kd L x c : Int) (l : List Nd) (F : Nat → Prop) (w : World) (h : DigAt w d p K kd L l F) (hx : x ≤ 9223372036854775807) (hc : c ≤ 9223372036854775807) (hno : insE L x c (sumL l) ≠ 0) :
    Calls Tryz.prog 14 #[.pointer (some ⟨d, 0, none⟩), .int .i64 x, .int .i64 c] w fun e w' => e = .returned (.int .i64 (insE L x c (sumL l))) ∧ Below w.heap.size w w' := by
  obtain ⟨hL1, hL2⟩ := h.pool.uni
  have c1 := h.blk.cell 1
  have hkp := hide (fun W (hW : Below w.heap.size w W) => h.kept hW)
  have hl := hide (fun W (hW : Below w.heap.size w W) => pool_l p kd L l F W (h.pool.kept hW))
  have hT := hide (fun W (hW : Below w.heap.size w W) => pool_total p kd L l F W (h.pool.kept hW))
  have hLf := hide (fun W => leaf_c L x W hx)
  have hs0 := sumL_nonneg l h.pool.canon.cntL
  have hs1 := h.pool.sum
  clear h
  unfold insE at hno ⊢
  by_cases hr : 0 ≤ x ∧ x < pw L
  · rw [leaf_ok hL1 hL2 hr.1 hr.2] at hLf
    rw [if_pos hr] at hno ⊢
    by_cases hc1 : c < 1
    · rw [if_pos hc1]
      clear hno
      go_enter Tryz.func14, Tryz.ntmps14
      go_wp2_with fail
      refine Calls.mono (hl.out _ (Below.refl _ _)) ?_
      rintro e w1 ⟨rfl, hb1⟩
      have hb1 := hide hb1
      go_wp2_with fail
      refine Calls.mono (hLf.out _) ?_
      rintro e w2 ⟨rfl, rfl⟩
      go_wp2_with fail
      go_ret
      exact ⟨rfl, hb1.out⟩
    · rw [if_neg hc1] at hno ⊢
      have hm : 72057594037927935 < sumL l + c := by
        by_cases hm : 72057594037927935 < sumL l + c
        · exact hm
        · rw [if_neg hm] at hno; exact absurd rfl hno
      rw [if_pos hm]
      clear hno
      go_enter Tryz.func14, Tryz.ntmps14
      go_wp2_with fail
      refine Calls.mono (hl.out _ (Below.refl _ _)) ?_
      rintro e w1 ⟨rfl, hb1⟩
      clear c1
      have c1 := (hkp.out _ hb1).blk.cell 1
      have hb1 := hide hb1
      go_wp2_with fail
      refine Calls.mono (hLf.out _) ?_
      rintro e w2 ⟨rfl, rfl⟩
      go_wp2_with fail
      refine Calls.mono (hT.out _ hb1.out) ?_
      rintro e w2 ⟨rfl, hb2⟩
      have hb2 := hide (hb1.out.trans (hb2.mono hb1.out.size))
      go_wp2_with fail
      go_ret
      exact ⟨rfl, hb2.out⟩
  · rw [leaf_not hr] at hLf
    rw [if_neg hr]
    clear hno hr
    go_enter Tryz.func14, Tryz.ntmps14
    go_wp2_with fail
    refine Calls.mono (hl.out _ (Below.refl _ _)) ?_
    rintro e w1 ⟨rfl, hb1⟩
    have hb1 := hide hb1
    go_wp2_with fail
    refine Calls.mono (hLf.out _) ?_
    rintro e w2 ⟨rfl, rfl⟩
    go_wp2_with fail
    go_ret
    exact ⟨rfl, hb1.out⟩
theorem del_head {l : List Nd} (h : Canon l) (i : Nat) (hi : i < l.length) : del l[i].1 (l.drop i) = l.drop (i + 1) := by
  rw [List.drop_eq_getElem_cons hi, del_same rfl]
  unfold del
  rw [List.filter_eq_self]
  intro q hq
  obtain ⟨j, hj, rfl⟩ := List.mem_iff_getElem.1 hq
  rw [List.length_drop] at hj
  rw [List.getElem_drop]
  have := List.pairwise_iff_getElem.1 h.rise i (i + 1 + j) hi (by omega) (by omega)
  simp
  omega
set_option maxRecDepth 100000 in
set_option maxHeartbeats 2000000 in
theorem digest_reset (d p : Nat) (K kd L : Int) (l : List Nd) (F : Nat → Prop) (w : World) (h : DigAt w d p K kd L l F) :
    Calls Tryz.prog 26 #[.pointer (some ⟨d, 0, none⟩)] w fun e w' => (∃ v, e = .returned v) ∧ DigAt w' d p K kd L [] F ∧ Turn F w w' := by
  have c1 := h.blk.cell 1
  have hS := hide (pool_snap p kd L l F w h.pool)
  have hdl := hide (fun i hi => del_head h.pool.canon i hi)
  have hidb := hide (fun x hx => h.pool.allU x hx)
  have hlt := h.lt
  have hll := h.pool.len
  have hh := hide h
  clear h
  obtain ⟨n, hn⟩ : ∃ n, Hid (l.length = n) := ⟨_, rfl⟩
  rw [hn.out] at hS hll
  obtain ⟨hdl1, hpl1, hFl⟩ := hlt
  go_enter Tryz.func26, Tryz.ntmps26
  go_wp2_with fail
  refine Calls.mono hS.out ?_
  rintro e w1 ⟨v, rfl, hv, hb⟩
  obtain ⟨A, c, rfl, hA1, hA2, hA3⟩ := own_form hv
  have hv := hide hv
  have hD1 := hide (hh.out.kept hb)
  have ht1 := hide (Below.turn hb F)
  clear hb c1
  go_wp2_with fail
  go_loopw [13] (fun kv wr => ∃ (i : Nat), kv = .int .i64 i ∧ i ≤ n ∧ Hid (wr.ownsRow w.heap.size 67 2 (.slice A n c) n (ndv l)) ∧ Hid (DigAt wr d p K kd L (l.drop i) F) ∧ Hid (Turn F w wr)) (fun kv _ => n - (intOf kv).toNat)
  case atStart => exact ⟨0, rfl, by omega, hv, by rw [List.drop_zero]; exact hD1, ht1⟩
  case round =>
    obtain ⟨i, rfl, hi, hrow, hD, ht⟩ := hrel
    clear hv hD1 ht1
    by_cases hlt2 : i < n
    · have hil : i < l.length := by rw [hn.out]; exact hlt2
      have hro := hrow.out
      rw [← hn.out] at hro
      obtain ⟨g, cap, e1, hg, cx, cn⟩ := nd_at hro hil
      injection e1 with e1 e2 e3
      subst e1 e3
      have hde := hdl.out i hil
      have hid := hidb.out _ (List.getElem_mem hil)
      have c1 := hD.out.blk.cell 1
      have hdw := hD.out.lt.1
      have hTk := hide (fun (W : World) (hW : Below wr.heap.size wr W) => pool_take p kd L l[i].1 (l.drop i) F W (hD.out.pool.kept hW) (by omega))
      rw [hde] at hTk
      have hgF : ∀ j, F j → j < w.heap.size := hFl
      have hgw := (hrow.out.lt g rfl).1
      clear hro hde
      generalize l[i] = q at *
      obtain ⟨x, y⟩ := q
      simp only at cx cn hTk hid
      have hb1 := hide (balloc0 wr (.cells #[.int .i64 x, .int .i64 y] 67))
      have hsz := ht.out.size
      go_wp2_with fail
      go_region_with (go_at_call 69; (with_reducible refine (hTk.out _ ?_).mono ?_); (first | exact hb1.out | exact hb1.out.drew); rintro e w4 ⟨rfl, h1, h2⟩; have hp4 := hide h1; have t4 := hide (show Turn F wr w4 from (Below.turn hb1.out F).trans (⟨h2.os, h2.tape, h2.output, h2.size, h2.block⟩ : Turn F (wr.alloc (.cells #[.int .i64 x, .int .i64 y] 67)) w4) fun _ _ k => k); clear h1 h2)
      all_goals
        have hrow4 := hide (own_turnedB hrow.out t4.out fun k hk e => by have := hFl k e; have : g = k := Option.some.inj hk; omega)
        have hD4 := hide (show DigAt w4 d p K kd L (l.drop (i + 1)) F from hD.out.turned hp4.out t4.out fun j hj => .inl hj)
        have ht4 := hide (show Turn F w w4 from ht.out.trans t4.out fun _ _ k => k)
        go_wp2_with fail
        go_roundw
        case rel => exact ⟨i + 1, by go_num, by omega, hrow4, hD4, ht4⟩
        case measure => simp [intOf]; omega
    · obtain rfl : i = n := by omega
      have hfin : Hid (DigAt wr d p K kd L [] F) := by
        have := hD.out
        rwa [← hn.out, List.drop_length] at this
      clear hD
      go_wp2_with fail
      go_end0
      exact ⟨⟨_, rfl⟩, hfin.out, ht.out⟩
end Go.Proofs.YteebghoijaaakaaGreat
/- Conf of a digest. By the prover of this repo. -/
namespace Go.Proofs.YteebghoijaaakaaGreat
open Go.RowKit
open TwigM RollM StoM

theorem pool_l_same (p : Nat) (kd L : Int) (l : List Nd) (F : Nat → Prop) (w : World) (h : PoolAt w p kd L l F) :
    Calls Tryz.prog 33 #[.pointer (some ⟨p, 0, none⟩)] w fun e w' => e = .returned (.int .i64 L) ∧ w = w' := by
  rcases h.kind with ⟨rfl, g, b, hb, hd, -⟩ | ⟨rfl, g, b, k, cp, R, hb, hd, hk2, -⟩
  · have c0 := hb.cell 0
    have c1 := hb.cell 1
    have hI := hide (pool_arr p g w c0)
    have hC := hide (dense_l g b L l w hd)
    clear h hb hd
    go_enter Tryz.func33, Tryz.ntmps33
    go_wp2_with fail
    refine Calls.mono hI.out ?_
    rintro e w1 ⟨rfl, rfl⟩
    go_wp2_with fail
    refine Calls.mono hC.out ?_
    rintro e w1 ⟨rfl, rfl⟩
    go_wp2_with fail
    go_ret
    exact ⟨rfl, rfl⟩
  · have c0 := hb.cell 0
    have c1 := hb.cell 1
    have hI := hide (pool_not p w c0)
    have hJ := hide (pool_inner p _ w c1)
    have hC := hide (probe_l g b k cp R L _ _ w hd.raw)
    clear h hb hd
    go_enter Tryz.func33, Tryz.ntmps33
    go_wp2_with fail
    refine Calls.mono hI.out ?_
    rintro e w1 ⟨rfl, rfl⟩
    go_wp2_with fail
    refine Calls.mono hJ.out ?_
    rintro e w1 ⟨rfl, rfl⟩
    go_wp2_with fail
    refine Calls.mono hC.out ?_
    rintro e w1 ⟨rfl, rfl⟩
    go_wp2_with fail
    go_ret
    exact ⟨rfl, rfl⟩
theorem pool_kind_same (p : Nat) (kd L : Int) (l : List Nd) (F : Nat → Prop) (w : World) (h : PoolAt w p kd L l F) :
    Calls Tryz.prog 34 #[.pointer (some ⟨p, 0, none⟩)] w fun e w' => e = .returned (.int .i64 kd) ∧ w = w' := by
  rcases h.kind with ⟨rfl, g, b, hb, hd, -⟩ | ⟨rfl, g, b, k, cp, R, hb, hd, hk2, -⟩
  · have c0 := hb.cell 0
    have c1 := hb.cell 1
    have hI := hide (pool_arr p g w c0)
    clear h hb hd
    go_enter Tryz.func34, Tryz.ntmps34
    go_wp2_with fail
    refine Calls.mono hI.out ?_
    rintro e w1 ⟨rfl, rfl⟩
    go_wp2_with fail
    go_ret
    exact ⟨rfl, rfl⟩
  · have c0 := hb.cell 0
    have c1 := hb.cell 1
    have hI := hide (pool_not p w c0)
    clear h hb hd
    go_enter Tryz.func34, Tryz.ntmps34
    go_wp2_with fail
    refine Calls.mono hI.out ?_
    rintro e w1 ⟨rfl, rfl⟩
    go_wp2_with fail
    go_ret
    exact ⟨rfl, rfl⟩
set_option maxRecDepth 100000 in
set_option maxHeartbeats 4000000 in
theorem digest_conf (d p : Nat) (K kd L : Int) (l : List Nd) (F : Nat → Prop) (w : World) (h : DigAt w d p K kd L l F) :
    Calls Tryz.prog 10 #[.pointer (some ⟨d, 0, none⟩)] w fun e w' => e = .returned (conf L K kd) ∧ Below w.heap.size w w' := by
  have c0 := h.blk.cell 0
  have c1 := h.blk.cell 1
  have hd := h.lt.1
  have hl := hide (fun W (hW : Below w.heap.size w W) => pool_l_same p kd L l F W (h.pool.kept hW))
  have hk := hide (fun W (hW : Below w.heap.size w W) => pool_kind_same p kd L l F W (h.pool.kept hW))
  clear h
  unfold conf
  go_enter Tryz.func10, Tryz.ntmps10
  go_wp2_with fail
  have hb0 := hide (balloc0 w (.cells #[.int .i64 0, .int .i64 0, .int .i64 0] 42))
  have bC := Blk.made w 42 #[.int .i64 0, .int .i64 0, .int .i64 0]
  have q0 := bC.cell 0
  have q1 := bC.cell 1
  have q2 := bC.cell 2
  have r0 := bC.free 0
  have r1 := bC.free 1
  have r2 := bC.free 2
  have hbC := hide bC
  clear bC
  go_region_with (first
    | (go_at_call 33; (with_reducible refine (hl.out _ ?_).mono ?_); (first | exact hb0.out | exact hb0.out.drew | exact hb0.out.drew.drew); rintro e w1 ⟨rfl, rfl⟩)
    | (go_at_call 34; (with_reducible refine (hk.out _ ?_).mono ?_); (first | exact hb0.out | exact hb0.out.drew | exact hb0.out.drew.drew); rintro e w1 ⟨rfl, rfl⟩))
  all_goals
    have z := Blk.made w 42 #[.int .i64 L, .int .i64 K, .int .i64 kd]
    have z0 := z.cell 0
    have z1 := z.cell 1
    have z2 := z.cell 2
    go_wp2_with fail
    try simp only [Exit.inBlock, Exit.then]
    refine bodyPost_ret (v := .agg #[.int .i64 L, .int .i64 K, .int .i64 kd]) (by simp [results, Tryz.results10, go_sem, z0, z1, z2]) rfl ⟨rfl, (balloc0 w _).drew⟩
end Go.Proofs.YteebghoijaaakaaGreat

/- Part 25 of the proof: texts joined by this repo's tools/merge.py (Text TextB VaryM VaryN VaryB). By the prover of this repo. -/
import Derived.Test.YtfjgpjgphdiliaaGreatM24
import Derived.Test.YtfjgpjgphdiliaaGreatM7
import Derived.Test.YtfjgpjgphdiliaaGreatM21
import Derived.Test.YtfjgpjgphdiliaaGreatRows
set_option linter.unusedVariables false
set_option linter.unusedSimpArgs false
/- The walk of sheet.Text: a digest's lines. By the prover of this repo. -/
namespace Go.Proofs.YtfjgpjgphdiliaaGreat
open Go.RowKit
open TwigM RollM StoM

abbrev BldL (B b : Nat) (l : List UInt8) (w : World) : Prop := IsBld B b (Lib.byteCells l) w
theorem bldL_kept {B b : Nat} {l : List UInt8} {w w' : World} (h : BldL B b l w) (hb : Below w.heap.size w w') : BldL B b l w' := by
  have key : ∀ p, Lib.BuilderAt 83 5 B b p (Lib.byteCells l) w → Lib.BuilderAt 83 5 B b p (Lib.byteCells l) w' := by
    rintro p ⟨hB, v, hbk, ho, hne⟩
    exact ⟨hB, v, (hb.block b (Array.getElem?_eq_some_iff.1 hbk).1).trans hbk, own_kept ho hb, hne⟩
  rcases h with h | h
  · exact .inl (key _ h)
  · exact .inr (key _ h)
def catS : List ByteArray → List UInt8
  | [] => []
  | s :: r => s.data.toList ++ catS r
def tellL (ws : List ByteArray) : List UInt8 := catS ws ++ [10]
theorem catS_app : ∀ a b : List ByteArray, catS (a ++ b) = catS a ++ catS b
  | [], b => rfl
  | s :: a, b => by rw [List.cons_append, catS, catS, catS_app a b, List.append_assoc]
theorem catS_next (ws : List ByteArray) (i : Nat) (hi : i < ws.length) : catS (ws.take (i + 1)) = catS (ws.take i) ++ ws[i].data.toList := by
  rw [List.take_succ_eq_append_getElem hi, catS_app]
  simp [catS]
theorem catS_le (ws : List ByteArray) (i : Nat) : (catS (ws.take i)).length ≤ (catS ws).length := by
  have : catS ws = catS (ws.take i) ++ catS (ws.drop i) := by rw [← catS_app, List.take_append_drop]
  rw [this]; simp
set_option maxRecDepth 100000 in
set_option maxHeartbeats 1000000 in
theorem text_tell (B b g c : Nat) (l : List UInt8) (ws : List ByteArray) (w : World) (h : BldL B b l w) (hB : B ≤ w.heap.size) (hg : Blk w g 9 (ws.map Value.string).toArray) (hl : l.length + (tellL ws).length ≤ 140737488355328) (hws : ws.length ≤ c) (hc : c ≤ 1000000) :
    Calls Tryz.prog 46 #[.slice (some ⟨g, 0, none⟩) ws.length c, .pointer (some ⟨b, 0, none⟩)] w fun e w' => (∃ v, e = .returned v) ∧ BldL B b (l ++ tellL ws) w' ∧ Below B w w' ∧ KeepB w w' := by
  have hst := hide (show BldL B b (l ++ catS (ws.take 0)) w by rw [List.take_zero]; simpa [catS] using h)
  have hgh := hide hg
  have hnx := hide (fun i hi => catS_next ws i hi)
  have hle := hide (fun i => catS_le ws i)
  have hlen : Hid (l.length + (catS ws).length + 1 ≤ 140737488355328) := by
    have : (tellL ws).length = (catS ws).length + 1 := by simp [tellL]
    show _ ≤ _; omega
  have hall : Hid (catS (ws.take ws.length) = catS ws) := by show _ = _; rw [List.take_length]
  obtain ⟨n, hn⟩ : ∃ n, Hid (ws.length = n) := ⟨_, rfl⟩
  rw [hn.out] at hall hws ⊢
  clear h hg hl
  go_enter Tryz.func46, Tryz.ntmps46
  go_wp2_with fail
  go_loopw [7] (fun kv wr => ∃ i : Nat, kv = .int .i64 i ∧ i ≤ n ∧ Hid (BldL B b (l ++ catS (ws.take i)) wr) ∧ Hid (Below B w wr) ∧ Hid (KeepB w wr)) (fun kv _ => n - (intOf kv).toNat)
  case atStart => exact ⟨0, rfl, by omega, hst, Below.refl _ _, KeepB.refl _⟩
  case round =>
    obtain ⟨i, rfl, hi, hb, hbel, hkp⟩ := hrel
    clear hst
    have hz := hbel.out.size
    by_cases hlt : i < n
    · have hil : i < ws.length := by rw [hn.out]; exact hlt
      have bg := hkp.out.blk hgh.out (by decide) (by decide)
      have c0 : wr.cell? ⟨g, i, none⟩ = some (.string ws[i]) := by rw [bg.cell]; simp [hil]
      have hgl := bg.lt
      have h1 := hle.out (i + 1)
      have h2 := hnx.out i hil
      have hlo := hlen.out
      rw [h2, List.length_append] at h1
      have hsz : (Lib.byteCells (l ++ catS (ws.take i))).length + ws[i].size ≤ 140737488355328 := by
        rw [Lib.byteCells_length, List.length_append]
        have : ws[i].data.toList.length = ws[i].size := by simp
        omega
      have hW := hide (bld_text B b _ ws[i] wr hb.out hsz (by omega))
      have hnew : Hid (Lib.byteCells (l ++ catS (ws.take i)) ++ Lib.strCells ws[i] = Lib.byteCells (l ++ catS (ws.take (i + 1)))) := by
        show _ = _
        rw [h2, Lib.strCells_eq]
        simp [Lib.byteCells]
      clear bg h1 h2 hlo hsz
      generalize ws[i] = s at *
      go_wp2_with (go_at_call 47; refine hW.out.mono ?_; rintro e w2 ⟨rfl, k1, k2, k3⟩; have k1 := hide k1; have k2 := hide k2; have k3 := hide k3)
      go_roundw
      case rel => exact ⟨i + 1, by go_num, by omega, .inr (by rw [← hnew.out]; exact k1.out), hbel.out.trans k2.out, hkp.out.trans k3.out⟩
      case measure => simp [intOf]; omega
    · obtain rfl : i = n := by omega
      have hb2 := hb.out
      rw [hall.out] at hb2
      have hW := hide (bld_byte B b (Lib.byteCells (l ++ catS ws)) 10 wr hb2 (by rw [Lib.byteCells_length, List.length_append]; exact hlen.out) (by omega))
      have hnew : Hid (Lib.byteCells (l ++ catS ws) ++ [.int .u8 10] = Lib.byteCells (l ++ tellL ws)) := by
        show _ = _
        unfold tellL
        simp [Lib.byteCells]
      clear hb hb2
      go_wp2_with (go_at_call 48; refine hW.out.mono ?_; rintro e w2 ⟨rfl, k1, k2, k3⟩; have k1 := hide k1; have k2 := hide k2; have k3 := hide k3)
      go_end0
      exact ⟨⟨_, rfl⟩, .inr (by rw [← hnew.out]; exact k1.out), hbel.out.trans k2.out, hkp.out.trans k3.out⟩
end Go.Proofs.YtfjgpjgphdiliaaGreat
/- The walk of sheet.Text, on: all lines. By the prover of this repo. -/
namespace Go.Proofs.YtfjgpjgphdiliaaGreat
open Go.RowKit
open TwigM RollM StoM

theorem digF_len : ∀ (k n : Nat), n < 10 ^ (k + 1) → (digF n).length ≤ k + 1
  | 0, n, h => by rw [digF_small (by simpa using h)]; simp
  | k + 1, n, h => by
    by_cases h1 : n < 10
    · rw [digF_small h1]; simp
    · rw [digF_more h1, List.length_append]
      have := digF_len k (n / 10) (pow10 (k + 1) n h)
      simp; omega
theorem digS_len {n : Int} (h : n ≤ 9223372036854775807) : (digS n).data.toList.length ≤ 20 := by
  unfold digS
  split
  · show (⟨#[]⟩ : ByteArray).size ≤ 20; decide
  · have := digF_len 19 n.toNat (by show n.toNat < 100000000000000000000; omega)
    show (digF n.toNat).toArray.toList.length ≤ 20
    simpa using this
def sDigest : ByteArray := ⟨#[100, 105, 103, 101, 115, 116, 32]⟩
def sBlank : ByteArray := ⟨#[32]⟩
def sDots : ByteArray := ⟨#[46, 46]⟩
def headW (L K S : Int) : List ByteArray := [sDigest, digS L, sBlank, digS K, sBlank, digS S]
def lineW (L : Int) (p : Nd) : List ByteArray := [digS (loF L p.1), sDots, digS (loF L p.1 + pw (L - lg p.1) - 1), sBlank, digS p.2]
def linesL (L : Int) : List Nd → List UInt8
  | [] => []
  | p :: l => tellL (lineW L p) ++ linesL L l
/-- A digest's lines. -/
def textL (L K : Int) (l : List Nd) : List UInt8 := tellL (headW L K (sumL l)) ++ linesL L l
theorem linesL_app (L : Int) : ∀ a b : List Nd, linesL L (a ++ b) = linesL L a ++ linesL L b
  | [], b => rfl
  | p :: a, b => by rw [List.cons_append, linesL, linesL, linesL_app L a b, List.append_assoc]
theorem linesL_next (L : Int) (l : List Nd) (i : Nat) (hi : i < l.length) : linesL L (l.take (i + 1)) = linesL L (l.take i) ++ tellL (lineW L l[i]) := by
  rw [List.take_succ_eq_append_getElem hi, linesL_app]
  simp [linesL]
theorem head_len {L K S : Int} (h1 : L ≤ 9223372036854775807) (h2 : K ≤ 9223372036854775807) (h3 : S ≤ 9223372036854775807) : (tellL (headW L K S)).length ≤ 100 := by
  have a := digS_len h1
  have b := digS_len h2
  have c := digS_len h3
  have d : sDigest.data.toList.length = 7 := rfl
  have e : sBlank.data.toList.length = 1 := rfl
  simp only [tellL, headW, catS, List.length_append, List.length_cons, List.length_nil, d, e]
  omega
theorem line_len {L : Int} {p : Nd} (h1 : loF L p.1 ≤ 9223372036854775807) (h2 : loF L p.1 + pw (L - lg p.1) - 1 ≤ 9223372036854775807) (h3 : p.2 ≤ 9223372036854775807) : (tellL (lineW L p)).length ≤ 100 := by
  have a := digS_len h1
  have b := digS_len h2
  have c := digS_len h3
  have d : sDots.data.toList.length = 2 := rfl
  have e : sBlank.data.toList.length = 1 := rfl
  simp only [tellL, lineW, catS, List.length_append, List.length_cons, List.length_nil, d, e]
  omega
theorem lines_len {L : Int} : ∀ {l : List Nd}, (∀ p ∈ l, (tellL (lineW L p)).length ≤ 100) → (linesL L l).length ≤ 100 * l.length
  | [], _ => by simp [linesL]
  | p :: l, h => by
    have h1 := h p (by simp)
    have h2 := lines_len (l := l) fun q hq => h q (by simp [hq])
    rw [linesL, List.length_append, List.length_cons]; omega
set_option maxRecDepth 100000 in
set_option maxHeartbeats 4000000 in
theorem sheet_text (d p : Nat) (K kd L : Int) (l : List Nd) (F : Nat → Prop) (w : World) (h : DigAt w d p K kd L l F) :
    Calls Tryz.prog 15 #[.pointer (some ⟨d, 0, none⟩)] w fun e w' => e = .returned (.tuple #[.string ⟨(textL L K l).toArray⟩, .int .i64 0]) ∧ Below w.heap.size w w' := by
  obtain ⟨hL1, hL2⟩ := h.pool.uni
  have hK1 := h.k1
  have hK2 := h.k2
  have hs1 := h.pool.sum
  have hC := hide (fun W (hW : Below w.heap.size w W) => digest_conf d p K kd L l F W (h.kept hW))
  have hN := hide (fun W (hW : Below w.heap.size w W) => digest_n d p K kd L l F W (h.kept hW))
  have hNd := hide (fun W (hW : Below w.heap.size w W) => digest_nodes d p K kd L l F W (h.kept hW))
  have hE := hide (fun (id : Int) (W : World) (h1 : 1 ≤ id) (h2 : id < 2 * pw L) => ends_yes L id W hL1 hL2 h1 h2)
  have hDg := hide (fun (x : Int) (W : World) (hx : x ≤ 9223372036854775807) => sheet_digits x W hx)
  have hinu := hide h.pool.inU
  have hall := hide h.pool.allU
  have hll := h.pool.len
  have hhd := head_len (L := L) (K := K) (S := sumL l) (by omega) (by omega) (by omega)
  have hln : ∀ q ∈ l, (tellL (lineW L q)).length ≤ 100 := fun q hq => by
    obtain ⟨u1, u2⟩ := h.pool.inU q hq
    obtain ⟨v1, v2, v3⟩ := ends_in (show 1 ≤ L from hL1) u1 u2
    have := pw_le48 hL2
    unfold hiF at v2 v3
    exact line_len (by omega) (by omega) (by have := h.pool.allU q hq; omega)
  have hlb := hide (fun i => lines_len (L := L) (l := l.take i) fun q hq => hln q (List.mem_of_mem_take hq))
  have hlnh := hide hln
  have hnx := hide (fun i hi => linesL_next L l i hi)
  have hfin : Hid (⟨(textL L K l).toArray⟩ = (⟨(tellL (headW L K (sumL l)) ++ linesL L (l.take l.length)).toArray⟩ : ByteArray)) := by show _ = _; rw [List.take_length]; rfl
  clear h hln
  generalize hTT : (⟨(textL L K l).toArray⟩ : ByteArray) = TT at *
  generalize sumL l = S at *
  obtain ⟨n, hn⟩ : ∃ n, Hid (l.length = n) := ⟨_, rfl⟩
  rw [hn.out] at hfin hll
  unfold conf at hC
  clear hTT
  have hbl : BldL w.heap.size w.heap.size [] (w.alloc (.cells #[.pointer none, .slice none 0 0] 83)) := Lib.fresh_isBuilder _ _ w
  have hbl := hide hbl
  have hb0 := balloc0 w (.cells #[.pointer none, .slice none 0 0] 83)
  go_enter Tryz.func15, Tryz.ntmps15
  go_wp2_with fail
  refine Calls.mono (hC.out _ hb0) ?_
  rintro e w1 ⟨rfl, hb1⟩
  have hbl1 := hide (bldL_kept (bldL_kept hbl.out hb1) (balloc0 w1 (.cells #[.int .i64 L, .int .i64 K, .int .i64 kd] 23)))
  have bC := Blk.made w1 23 #[.int .i64 L, .int .i64 K, .int .i64 kd]
  have hz0 : (w.alloc (.cells #[.pointer none, .slice none 0 0] 83)).heap.size = w.heap.size + 1 := by simp
  have hz1 := hb1.size
  have hb2 := (hb0.trans (hb1.mono (by omega))).trans ((balloc0 w1 (.cells #[.int .i64 L, .int .i64 K, .int .i64 kd] 23)).mono (by omega))
  clear hb1 hb0 hbl
  obtain ⟨cb, hcb⟩ : ∃ cb, w1.heap.size = cb := ⟨_, rfl⟩
  go_wp2_with fail
  rw [hcb] at bC
  have hcbw : w.heap.size + 1 ≤ cb := by omega
  generalize (w1.alloc (.cells #[.int .i64 L, .int .i64 K, .int .i64 kd] 23)) = w2 at *
  clear hz1 hcb hz0
  have q0 := bC.cell 0
  have q1 := bC.cell 1
  have q2 := bC.lt
  have hN1 := hide (fun (e : Later w2.heap.size w2) => hN.out e.val (hb2.trans (e.property.mono hb2.size)))
  have hb2 := hide hb2
  have bC := hide bC
  refine wp_later_tail1 10 (.tmp 5) (.func (.func 46) #[] #[.pointer (some ⟨w.heap.size, 0, none⟩)]) rfl rfl rfl (by kernel_rfl) (by omega) (by kernel_rfl) (fun _ _ _ h => h) ?_
  simp only [List.take_succ_cons, List.take_zero, List.drop_succ_cons, List.drop_zero, Act.put, List.setIfInBounds_toArray, List.set_cons_zero, List.set_cons_succ]
  repeat (go_big_quiet_step (first
    | (go_at_call 49; exact calls_later (hDg.out _ _ (by omega)))
    | (go_at_call 35; exact calls_later (hN1.out _))
    | exact rfl))
  refine wpQuiet_nil ?_
  rintro _ ⟨e3, rfl⟩
  have hbl3 := hide (bldL_kept hbl1.out e3.property)
  have bC3 := hide (bC.out.kept e3.property)
  have hb3 := hide (hb2.out.trans (e3.property.mono hb2.out.size))
  clear q0 q1 q2 hN1
  generalize e3.val = w3 at *
  clear e3
  have hz3 := hb3.out.size
  have hbl4 := hide (bldL_kept hbl3.out (balloc0 w3 (.cells #[.string ⟨#[100, 105, 103, 101, 115, 116, 32]⟩, .string (digS L), .string ⟨#[32]⟩, .string (digS K), .string ⟨#[32]⟩, .string (digS S)] 9)))
  have hb4 := hide (hb3.out.trans ((balloc0 w3 (.cells #[.string ⟨#[100, 105, 103, 101, 115, 116, 32]⟩, .string (digS L), .string ⟨#[32]⟩, .string (digS K), .string ⟨#[32]⟩, .string (digS S)] 9)).mono hz3))
  have bC4 := hide (bC3.out.alloc (.cells #[.string ⟨#[100, 105, 103, 101, 115, 116, 32]⟩, .string (digS L), .string ⟨#[32]⟩, .string (digS K), .string ⟨#[32]⟩, .string (digS S)] 9))
  have bG : Blk (w3.alloc (.cells #[.string ⟨#[100, 105, 103, 101, 115, 116, 32]⟩, .string (digS L), .string ⟨#[32]⟩, .string (digS K), .string ⟨#[32]⟩, .string (digS S)] 9)) w3.heap.size 9 ((headW L K S).map Value.string).toArray := Blk.made w3 _ _
  have hTl := hide (text_tell w.heap.size w.heap.size w3.heap.size 6 [] (headW L K S) _ hbl4.out hb4.out.size bG (by simp only [List.length_nil]; omega) (Nat.le_refl _) (by omega))
  have hlw : (headW L K S).length = 6 := rfl
  rw [hlw] at hTl
  clear bG hlw
  go_wp2_with (go_at_call 46; refine hTl.out.mono ?_; rintro e w5 ⟨⟨v5, rfl⟩, k1, k2, k3⟩; have k1 := hide k1; have k2 := hide k2; have k3 := hide k3)
  have hb5 := hide (hb4.out.trans k2.out)
  have bC5 := hide (k3.out.blk bC4.out (by decide) (by decide))
  refine Calls.mono (hNd.out _ hb5.out) ?_
  rintro e w6 ⟨v6, rfl, hv6, hb6⟩
  rw [hn.out] at hv6
  obtain ⟨A, c, rfl, hA1, hA2, hA3⟩ := own_form hv6
  have hz5 := hb5.out.size
  have hv6 := hide (own_dn hz5 hv6)
  have hbl6 := hide (bldL_kept k1.out hb6)
  have bC6 := hide (bC5.out.kept hb6)
  have hb6 := hide (hb5.out.trans (hb6.mono hz5))
  clear hbl1 hbl3 hbl4 bC bC3 bC4 bC5 hb2 hb3 hb4 hTl k1 k2 k3 hz3
  go_wp2_with fail
  go_loopw [32] (fun kv wr => ∃ i : Nat, kv = .int .i64 i ∧ i ≤ n ∧ Hid (BldL w.heap.size w.heap.size (tellL (headW L K S) ++ linesL L (l.take i)) wr) ∧ Hid (Blk wr cb 23 #[.int .i64 L, .int .i64 K, .int .i64 kd]) ∧ Hid (wr.ownsRow w.heap.size 76 2 (.slice A n c) n (ndv l)) ∧ Hid (Below w.heap.size w wr)) (fun kv _ => n - (intOf kv).toNat)
  case atStart => exact ⟨0, rfl, by omega, by rw [List.take_zero, linesL, List.append_nil]; exact hbl6, bC6, hv6, hb6⟩
  case round =>
    obtain ⟨i, rfl, hi, hbl, bC, hrow, hbel⟩ := hrel
    clear hbl6 bC6 hv6 hb6
    by_cases hlt : i < n
    · have hil : i < l.length := by rw [hn.out]; exact hlt
      have hro := hrow.out
      rw [← hn.out] at hro
      obtain ⟨g, cap, e1, hg, cx, cn⟩ := nd_at hro hil
      injection e1 with e1 e2 e3
      subst e1 e3
      have hid := hinu.out _ (List.getElem_mem hil)
      have hal := hall.out _ (List.getElem_mem hil)
      have hl1 := hlnh.out _ (List.getElem_mem hil)
      have hl2 := hlb.out i
      have hn1 := hide (hnx.out i hil)
      have htk : (l.take i).length ≤ i := by rw [List.length_take]; omega
      clear hro
      generalize l[i] = q at *
      obtain ⟨id, cnt⟩ := q
      simp only at cx cn hid hal
      have hbs := hbel.out.size
      have f0 := bC.out.cell 0
      have f1 := bC.out.lt
      have hE1 := hide (fun W => hE.out id W hid.1 hid.2)
      have bN := Blk.made wr 76 #[.int .i64 id, .int .i64 cnt]
      have hends := ends_in hL1 hid.1 hid.2
      have hp48 := pw_le48 hL2
      unfold hiF at hends
      obtain ⟨y1, y2, y3⟩ := hends
      go_wp2_with fail
      refine Calls.mono (hE1.out _) ?_
      rintro e w7 ⟨rfl, m, rfl⟩
      have hb7 := below_drewN (balloc0 wr (.cells #[.int .i64 id, .int .i64 cnt] 76)) m
      have hbl7 := hide (bldL_kept hbl.out hb7)
      have bC7 := hide (bC.out.kept hb7)
      have bN7 := hide (bN.drewN m)
      have hrow7 : Hid (((wr.alloc (.cells #[.int .i64 id, .int .i64 cnt] 76)).drewN m).ownsRow w.heap.size 76 2 (.slice (some ⟨g, 0, none⟩) n c) n (ndv l)) := hide (hrow.out.alloc _)
      have hbel7 := hide (hbel.out.trans (hb7.mono hbs))
      have z1 := bN7.out.cell 1
      have z2 := bN7.out.lt
      clear f0 f1 hb7 bN cx cn hg
      go_wp2_with fail
      generalize ((wr.alloc (.cells #[.int .i64 id, .int .i64 cnt] 76)).drewN m) = w8 at *
      refine wp_later_tail1 8 (.tmp 5) (.func (.func 46) #[] #[.pointer (some ⟨w.heap.size, 0, none⟩)]) rfl rfl rfl (by kernel_rfl) (by omega) (by kernel_rfl) (fun _ _ _ h => h) ?_
      simp only [List.take_succ_cons, List.take_zero, List.drop_succ_cons, List.drop_zero, Act.put, List.setIfInBounds_toArray, List.set_cons_zero, List.set_cons_succ]
      repeat (go_big_quiet_step (first
        | (go_at_call 49; exact calls_later (hDg.out _ _ (by omega)))
        | exact rfl))
      refine wpQuiet_nil ?_
      rintro _ ⟨e9, rfl⟩
      have hbl9 := hide (bldL_kept hbl7.out e9.property)
      have bC9 := hide (bC7.out.kept e9.property)
      have hrow9 := hide (own_kept hrow7.out e9.property)
      have hbel9 := hide (hbel7.out.trans (e9.property.mono hbel7.out.size))
      clear z1 z2
      generalize e9.val = w9 at *
      clear e9
      have hz9 := hbel9.out.size
      have hbl10 := hide (bldL_kept hbl9.out (balloc0 w9 (.cells #[.string (digS (loF L id)), .string ⟨#[46, 46]⟩, .string (digS (loF L id + pw (L - lg id) - 1)), .string ⟨#[32]⟩, .string (digS cnt)] 9)))
      have bC10 := hide (bC9.out.alloc (.cells #[.string (digS (loF L id)), .string ⟨#[46, 46]⟩, .string (digS (loF L id + pw (L - lg id) - 1)), .string ⟨#[32]⟩, .string (digS cnt)] 9))
      have hrow10 := hide (hrow9.out.alloc (.cells #[.string (digS (loF L id)), .string ⟨#[46, 46]⟩, .string (digS (loF L id + pw (L - lg id) - 1)), .string ⟨#[32]⟩, .string (digS cnt)] 9))
      have hbel10 := hide (hbel9.out.trans ((balloc0 w9 (.cells #[.string (digS (loF L id)), .string ⟨#[46, 46]⟩, .string (digS (loF L id + pw (L - lg id) - 1)), .string ⟨#[32]⟩, .string (digS cnt)] 9)).mono hz9))
      have bG : Blk (w9.alloc (.cells #[.string (digS (loF L id)), .string ⟨#[46, 46]⟩, .string (digS (loF L id + pw (L - lg id) - 1)), .string ⟨#[32]⟩, .string (digS cnt)] 9)) w9.heap.size 9 ((lineW L (id, cnt)).map Value.string).toArray := Blk.made w9 _ _
      have hTl := hide (text_tell w.heap.size w.heap.size w9.heap.size 5 (tellL (headW L K S) ++ linesL L (l.take i)) (lineW L (id, cnt)) _ hbl10.out hbel10.out.size bG (by rw [List.length_append]; omega) (Nat.le_refl _) (by omega))
      have hlw : (lineW L (id, cnt)).length = 5 := rfl
      rw [hlw] at hTl
      clear bG hlw
      go_wp2_with (go_at_call 46; refine hTl.out.mono ?_; rintro e w11 ⟨⟨v11, rfl⟩, k1, k2, k3⟩; have k1 := hide k1; have k2 := hide k2; have k3 := hide k3)
      go_roundw
      case rel => exact ⟨i + 1, by go_num, by omega, by rw [hn1.out, ← List.append_assoc]; exact k1.out, k3.out.blk bC10.out (by decide) (by decide), k3.out.row hrow10.out (by decide) (by decide), hbel10.out.trans k2.out⟩
      case measure => simp [intOf]; omega
    · obtain rfl : i = n := by omega
      have hB := hide (Tryz.Builder_String_any w.heap.size w.heap.size _ wr hbl.out hbel.out.size)
      rw [← hfin.out] at hB
      clear hbl hrow bC
      go_wp2_with fail
      refine Calls.mono hB.out ?_
      rintro e w7 ⟨rfl, hb7⟩
      have hb7 := hide (hbel.out.trans hb7)
      go_wp2_with fail
      go_ret2
      exact ⟨rfl, hb7.out⟩
end Go.Proofs.YtfjgpjgphdiliaaGreat
/- Plain facts on the numbers of layer 22: seven bits a byte, and how they are read. No program in sight. By the prover of this repo. -/
namespace Go.Proofs.YtfjgpjgphdiliaaGreat
namespace VaryM

/-- A number's bytes. -/
def enc (n : Nat) : List UInt8 := if n < 128 then [UInt8.ofNat n] else UInt8.ofNat (128 + n % 128) :: enc (n / 128)
termination_by n
decreasing_by omega

theorem enc_lt {n : Nat} (h : n < 128) : enc n = [UInt8.ofNat n] := by rw [enc, if_pos h]
theorem enc_ge {n : Nat} (h : 128 ≤ n) : enc n = UInt8.ofNat (128 + n % 128) :: enc (n / 128) := by rw [enc, if_neg (by omega)]

theorem enc_pos (n : Nat) : 1 ≤ (enc n).length := by
  rw [enc]; split <;> simp
theorem enc_len (k : Nat) : ∀ n, n < 128 ^ (k + 1) → (enc n).length ≤ k + 1 := by
  induction k with
  | zero => intro n h; rw [enc_lt (by simpa using h)]; simp
  | succ k ih =>
    intro n h
    by_cases h1 : n < 128
    · rw [enc_lt h1]; simp
    · rw [enc_ge (by omega)]
      have := ih (n / 128) (by rw [Nat.pow_succ] at h; omega)
      simp; omega
theorem enc_len9 {n : Nat} (h : n ≤ 9223372036854775807) : (enc n).length ≤ 9 := by
  have : (128 : Nat) ^ (8 + 1) = 9223372036854775808 := rfl
  exact enc_len 8 n (by omega)

/-- The bytes of numbers, one behind the other. -/
def encs (f : Nat → Int) : Nat → List UInt8
  | 0 => []
  | k + 1 => encs f k ++ enc (f k).toNat
theorem encs_len {f : Nat → Int} : ∀ k, (∀ i, i < k → f i ≤ 9223372036854775807) → (encs f k).length ≤ 9 * k
  | 0, _ => by simp [encs]
  | k + 1, h => by
    have h1 := encs_len k (fun i hi => h i (by omega))
    have h2 := enc_len9 (n := (f k).toNat) (by have := h k (by omega); omega)
    simp only [encs, List.length_append]
    omega

/-- The number that bytes begin with, from byte i on: what is gathered, what a bit is worth. The number, its bytes, the error. -/
def getGo (i n place : Nat) : List UInt8 → Nat × Nat × Nat
  | [] => if i = 9 then (0, 0, 10) else (0, 0, 9)
  | c :: r =>
    if i = 9 then (0, 0, 10)
    else if c.toNat < 128 then (if 0 < i ∧ c.toNat = 0 then (0, 0, 10) else (n + c.toNat * place, i + 1, 0))
    else getGo (i + 1) (n + (c.toNat - 128) * place) (place * 128) r
def get (l : List UInt8) : Nat × Nat × Nat := getGo 0 0 1 l
end VaryM
end Go.Proofs.YtfjgpjgphdiliaaGreat
/- Plain facts on the numbers of layer 22, on: what is read, bounds, all numbers of a text, the rising ones. No program in sight. By the prover of this repo. -/
namespace Go.Proofs.YtfjgpjgphdiliaaGreat
namespace VaryM

theorem getGo_facts : ∀ (l : List UInt8) (i n : Nat), i ≤ 9 → n < 128 ^ i →
    (getGo i n (128 ^ i) l).1 < 9223372036854775808 ∧ ((getGo i n (128 ^ i) l).2.2 = 0 → i + 1 ≤ (getGo i n (128 ^ i) l).2.1 ∧ (getGo i n (128 ^ i) l).2.1 ≤ i + l.length ∧ (getGo i n (128 ^ i) l).2.1 ≤ 9) ∧ ((getGo i n (128 ^ i) l).2.2 ≠ 0 → (getGo i n (128 ^ i) l).1 = 0 ∧ (getGo i n (128 ^ i) l).2.1 = 0) ∧ (getGo i n (128 ^ i) l).2.2 ≤ 10
  | [], i, n, _, _ => by
    simp only [getGo]; split <;> simp
  | c :: r, i, n, hi, hn => by
    simp only [getGo]
    split
    · simp
    · split
      · split
        · simp
        · have hp : 128 ^ i ≤ 128 ^ 8 := Nat.pow_le_pow_right (by omega) (by omega)
          rw [show (128 : Nat) ^ 8 = 72057594037927936 from rfl] at hp
          have : c.toNat * 128 ^ i ≤ 127 * 128 ^ i := Nat.mul_le_mul_right _ (by omega)
          simp only [List.length_cons]
          refine ⟨by omega, fun _ => ⟨by omega, by omega, by omega⟩, fun h => absurd rfl h, by omega⟩
      · have hc : c.toNat < 256 := c.toNat_lt
        have h1 : (c.toNat - 128) * 128 ^ i ≤ 127 * 128 ^ i := Nat.mul_le_mul_right _ (by omega)
        have hs : 128 ^ i * 128 = 128 ^ (i + 1) := (Nat.pow_succ ..).symm
        rw [hs]
        have := getGo_facts r (i + 1) (n + (c.toNat - 128) * 128 ^ i) (by omega) (by omega)
        simp only [List.length_cons]
        refine ⟨this.1, fun h => ?_, this.2.2⟩
        have := this.2.1 h
        omega

theorem get_facts (l : List UInt8) : (get l).1 < 9223372036854775808 ∧ ((get l).2.2 = 0 → 1 ≤ (get l).2.1 ∧ (get l).2.1 ≤ l.length ∧ (get l).2.1 ≤ 9) ∧ ((get l).2.2 ≠ 0 → (get l).1 = 0 ∧ (get l).2.1 = 0) ∧ (get l).2.2 ≤ 10 := by
  have := getGo_facts l 0 0 (by omega) (by simp)
  simpa [get] using this

/-- All numbers whose bytes these are, behind those that are read, and what is wrong first. -/
def allGo : Nat → List Int → List UInt8 → List Int × Int
  | 0, acc, _ => (acc, 0)
  | f + 1, acc, l => if l = [] then (acc, 0) else if (get l).2.2 ≠ 0 then ([], (get l).2.2) else allGo f (acc ++ [((get l).1 : Int)]) (l.drop (get l).2.1)
def all (l : List UInt8) : List Int × Int := allGo l.length [] l

theorem allGo_nil (f : Nat) (acc : List Int) : allGo f acc [] = (acc, 0) := by cases f <;> simp [allGo]
theorem allGo_bad {f : Nat} {acc : List Int} {l : List UInt8} (hl : l ≠ []) (h : l.length ≤ f) (e : (get l).2.2 ≠ 0) : allGo f acc l = ([], ((get l).2.2 : Int)) := by
  cases f with
  | zero => exact absurd (List.eq_nil_of_length_eq_zero (by omega)) hl
  | succ f => simp only [allGo]; rw [if_neg hl, if_pos e]
theorem allGo_on {f : Nat} {acc : List Int} {l : List UInt8} (hl : l ≠ []) (h : l.length ≤ f) (e : (get l).2.2 = 0) : ∃ f', f = f' + 1 ∧ (l.drop (get l).2.1).length ≤ f' ∧ allGo f acc l = allGo f' (acc ++ [((get l).1 : Int)]) (l.drop (get l).2.1) := by
  cases f with
  | zero => exact absurd (List.eq_nil_of_length_eq_zero (by omega)) hl
  | succ f =>
    have := (get_facts l).2.1 e
    refine ⟨f, rfl, by simp; omega, ?_⟩
    show (if l = [] then (acc, (0 : Int)) else if (get l).2.2 ≠ 0 then ([], ((get l).2.2 : Int)) else allGo f (acc ++ [((get l).1 : Int)]) (l.drop (get l).2.1)) = _
    rw [if_neg hl, if_neg (by simpa using e)]

/-- The rising numbers that so many bytes' numbers come to, from a place on, behind those that are read and the last of them. -/
def fallGo (l : List UInt8) : Nat → List Int → Nat → Nat → List Int × Int × Int
  | 0, acc, _, at_ => (acc, (at_ : Int), 0)
  | k + 1, acc, last, at_ =>
    if (get (l.drop at_)).2.2 ≠ 0 then ([], 0, ((get (l.drop at_)).2.2 : Int))
    else if (get (l.drop at_)).1 = 0 ∨ 9223372036854775807 - last < (get (l.drop at_)).1 then ([], 0, 10)
    else fallGo l k (acc ++ [((last + (get (l.drop at_)).1 : Nat) : Int)]) (last + (get (l.drop at_)).1) (at_ + (get (l.drop at_)).2.1)
def fall (l : List UInt8) (most : Int) : List Int × Int × Int :=
  if (get l).2.2 ≠ 0 then ([], 0, ((get l).2.2 : Int)) else if most < ((get l).1 : Int) then ([], 0, 13) else fallGo l (get l).1 [] 0 (get l).2.1

theorem fallGo_err {l : List UInt8} {k : Nat} {acc : List Int} {last at_ n s e : Nat} (h : get (l.drop at_) = (n, s, e)) (he : e ≠ 0) : fallGo l (k + 1) acc last at_ = ([], 0, (e : Int)) := by
  simp only [fallGo, h]; rw [if_pos he]
theorem fallGo_form {l : List UInt8} {k : Nat} {acc : List Int} {last at_ n s : Nat} (h : get (l.drop at_) = (n, s, 0)) (hn : n = 0 ∨ 9223372036854775807 - last < n) : fallGo l (k + 1) acc last at_ = ([], 0, 10) := by
  simp only [fallGo, h]; rw [if_neg (by simp), if_pos hn]
theorem fallGo_on {l : List UInt8} {k : Nat} {acc : List Int} {last at_ n s : Nat} (h : get (l.drop at_) = (n, s, 0)) (hn : ¬ (n = 0 ∨ 9223372036854775807 - last < n)) :
    fallGo l (k + 1) acc last at_ = fallGo l k (acc ++ [((last + n : Nat) : Int)]) (last + n) (at_ + s) := by
  simp only [fallGo, h]; rw [if_neg (by simp), if_neg hn]
end VaryM
end Go.Proofs.YtfjgpjgphdiliaaGreat
/- Plain facts on the numbers of layer 22, back and forth: what is put is read, what is read was put so. No program in sight. By the prover of this repo. -/
namespace Go.Proofs.YtfjgpjgphdiliaaGreat
namespace VaryM

theorem byte_hi (m : Nat) : (UInt8.ofNat (128 + m % 128)).toNat = 128 + m % 128 := by rw [UInt8.toNat_ofNat', Nat.mod_eq_of_lt (by omega)]
theorem byte_lo {m : Nat} (h : m < 128) : (UInt8.ofNat m).toNat = m := by rw [UInt8.toNat_ofNat', Nat.mod_eq_of_lt (by omega)]

theorem getGo_enc : ∀ (k m i n p : Nat) (r : List UInt8), (enc m).length = k → i + k ≤ 9 → (0 < i → 0 < m) → getGo i n p (enc m ++ r) = (n + m * p, i + k, 0) := by
  intro k
  induction k with
  | zero => intro m i n p r h; have := enc_pos m; omega
  | succ k ih =>
    intro m i n p r h hi hz
    by_cases hm : m < 128
    · rw [enc_lt hm] at h ⊢
      simp only [List.length_cons, List.length_nil] at h
      show getGo i n p (UInt8.ofNat m :: r) = _
      simp only [getGo]
      rw [if_neg (by omega), byte_lo hm, if_pos hm, if_neg (by omega)]
      have : k = 0 := by omega
      subst this
      rfl
    · rw [enc_ge (by omega)] at h ⊢
      simp only [List.length_cons] at h
      show getGo i n p (UInt8.ofNat (128 + m % 128) :: (enc (m / 128) ++ r)) = _
      have := enc_pos (m / 128)
      simp only [getGo]
      rw [if_neg (by omega), byte_hi, if_neg (by omega), ih (m / 128) (i + 1) _ _ r (by omega) (by omega) (by omega)]
      have e1 : (128 + m % 128 - 128) = m % 128 := by omega
      have e2 : m * p = (m % 128) * p + (m / 128) * (p * 128) := by
        have h3 : m = m % 128 + 128 * (m / 128) := by omega
        calc m * p = (m % 128 + 128 * (m / 128)) * p := by rw [← h3]
          _ = (m % 128) * p + (m / 128) * (p * 128) := by rw [Nat.add_mul, Nat.mul_comm 128 (m / 128), Nat.mul_assoc, Nat.mul_comm 128 p]
      rw [e1, e2]
      exact Prod.ext (by simp; omega) (Prod.ext (by simp; omega) rfl)

/-- What is put is read again, whatever stands behind it. -/
theorem get_enc {m : Nat} (h : m ≤ 9223372036854775807) (r : List UInt8) : get (enc m ++ r) = (m, (enc m).length, 0) := by
  unfold get
  rw [getGo_enc _ m 0 0 1 r rfl (by have := enc_len9 h; omega) (by omega)]
  simp

theorem getGo_back : ∀ (l : List UInt8) (i n p N sz : Nat), getGo i n p l = (N, sz, 0) → ∃ m, N = n + m * p ∧ sz = i + (enc m).length ∧ l.take (enc m).length = enc m ∧ (0 < i → 0 < m)
  | [], i, n, p, N, sz, h => by
    simp only [getGo] at h
    split at h <;> simp at h
  | c :: r, i, n, p, N, sz, h => by
    simp only [getGo] at h
    split at h
    · simp at h
    · split at h
      · rename_i hc
        split at h
        · simp at h
        · rename_i hz
          injection h with h1 h2
          injection h2 with h2 _
          refine ⟨c.toNat, h1.symm, by rw [enc_lt hc, ← h2]; rfl, ?_, by omega⟩
          rw [enc_lt hc]
          simp
      · rename_i hc
        have hc2 : c.toNat < 256 := c.toNat_lt
        obtain ⟨m, h1, h2, h3, h4⟩ := getGo_back r (i + 1) _ _ N sz h
        have hm := h4 (by omega)
        have hdiv : ((c.toNat - 128) + 128 * m) / 128 = m := by omega
        have hmod : ((c.toNat - 128) + 128 * m) % 128 = c.toNat - 128 := by omega
        have henc : enc ((c.toNat - 128) + 128 * m) = c :: enc m := by
          rw [enc_ge (by omega), hdiv, hmod, show 128 + (c.toNat - 128) = c.toNat by omega, UInt8.ofNat_toNat]
        refine ⟨(c.toNat - 128) + 128 * m, ?_, ?_, ?_, by omega⟩
        · rw [h1, Nat.add_mul, Nat.mul_comm 128 m, Nat.mul_assoc, Nat.mul_comm 128 p, Nat.add_assoc]
        · rw [henc, h2, List.length_cons]; omega
        · rw [henc, List.length_cons, List.take_succ_cons, h3]

/-- What is read has just these bytes. -/
theorem get_back {l : List UInt8} {N sz : Nat} (h : get l = (N, sz, 0)) : sz = (enc N).length ∧ l.take sz = enc N := by
  unfold get at h
  obtain ⟨m, h1, h2, h3, _⟩ := getGo_back l 0 0 1 N sz h
  have : N = m := by omega
  subst this
  have h4 : sz = (enc N).length := by omega
  exact ⟨h4, by rw [h4]; exact h3⟩

/-- The bytes of numbers, as a list's. -/
def encL (L : List Int) : List UInt8 := L.flatMap fun x => enc x.toNat
theorem encs_list (f : Nat → Int) : ∀ k, encs f k = encL ((List.range k).map f)
  | 0 => rfl
  | k + 1 => by
    rw [List.range_succ, List.map_append]
    unfold encL
    rw [List.flatMap_append]
    have := encs_list f k
    unfold encL at this
    rw [encs, this]
    simp

theorem allGo_encL : ∀ (L : List Int) (f : Nat) (acc : List Int), (∀ x ∈ L, 0 ≤ x ∧ x ≤ 9223372036854775807) → (encL L).length ≤ f → allGo f acc (encL L) = (acc ++ L, 0)
  | [], f, acc, _, _ => by simp [encL, allGo_nil]
  | x :: L, f, acc, h, hf => by
    have hx := h x (by simp)
    have e : encL (x :: L) = enc x.toNat ++ encL L := by simp [encL]
    have hg := get_enc (m := x.toNat) (by omega) (encL L)
    have hp := enc_pos x.toNat
    have hne : encL (x :: L) ≠ [] := by rw [e]; intro h; have := congrArg List.length h; simp only [List.length_append, List.length_nil] at this; omega
    rw [← e] at hg
    obtain ⟨f', rfl, h1, h2⟩ := allGo_on (acc := acc) hne hf (by rw [hg])
    rw [h2, hg]
    have hd : (encL (x :: L)).drop (enc x.toNat).length = encL L := by rw [e]; simp
    rw [hg] at h1
    simp only at h1 ⊢
    rw [hd] at h1 ⊢
    rw [allGo_encL L f' _ (fun y hy => h y (by simp [hy])) h1]
    have : ((x.toNat : Nat) : Int) = x := by omega
    rw [this]
    simp
/-- All that is put is read again. -/
theorem all_encs {f : Nat → Int} {k : Nat} (h : ∀ i, i < k → 0 ≤ f i ∧ f i ≤ 9223372036854775807) : all (encs f k) = ((List.range k).map f, 0) := by
  rw [encs_list]
  unfold all
  rw [allGo_encL _ _ _ (by intro x hx; simp at hx; obtain ⟨i, hi, rfl⟩ := hx; exact h i hi) (Nat.le_refl _)]
  simp

/-- Rising numbers by how far each rises. -/
def rise (last : Int) : List Int → List Int
  | [] => []
  | x :: L => (x - last) :: rise x L
/-- A list that rises from a number on. -/
def Rises (last : Int) : List Int → Prop
  | [] => True
  | x :: L => last < x ∧ Rises x L

theorem rise_len : ∀ (last : Int) (L : List Int), (rise last L).length = L.length
  | _, [] => rfl
  | last, x :: L => by simp [rise, rise_len x L]

theorem fallGo_rise : ∀ (L : List Int) (l r : List UInt8) (last at_ : Nat) (acc : List Int), l.drop at_ = encL (rise last L) ++ r → Rises last L → (∀ x ∈ L, x ≤ 9223372036854775807) →
    fallGo l L.length acc last at_ = (acc ++ L, ((at_ + (encL (rise last L)).length : Nat) : Int), 0)
  | [], l, r, last, at_, acc, _, _, _ => by simp [fallGo, rise, encL]
  | x :: L, l, r, last, at_, acc, hd, hr, hx => by
    obtain ⟨h1, h2⟩ := hr
    have hx1 := hx x (by simp)
    have e : encL (rise last (x :: L)) = enc (x - last).toNat ++ encL (rise x L) := by simp [encL, rise]
    have hg : get (l.drop at_) = ((x - last).toNat, (enc (x - last).toNat).length, 0) := by
      rw [hd, e, List.append_assoc]; exact get_enc (by omega) _
    have hlast : ((last + (x - last).toNat : Nat) : Int) = x := by omega
    have hd2 : l.drop (at_ + (enc (x - last).toNat).length) = encL (rise ((last + (x - last).toNat : Nat) : Int) L) ++ r := by
      rw [← List.drop_drop, hd, e, hlast, List.append_assoc]; simp
    rw [List.length_cons, fallGo_on hg (by omega), fallGo_rise L l r _ _ _ hd2 (by rw [hlast]; exact h2) (fun y hy => hx y (by simp [hy])), hlast, e]
    refine Prod.ext (by simp) (Prod.ext ?_ rfl)
    simp only [List.length_append]
    omega

/-- Rising numbers are read again, whatever stands behind them. -/
theorem fall_rise {L : List Int} (r : List UInt8) (hL : L.length ≤ 1000000) (hr : Rises 0 L) (hx : ∀ x ∈ L, x ≤ 9223372036854775807) :
    fall (enc L.length ++ encL (rise 0 L) ++ r) (L.length : Int) = (L, ((enc L.length ++ encL (rise 0 L)).length : Int), 0) := by
  have hg := get_enc (m := L.length) (by omega) (encL (rise 0 L) ++ r)
  rw [← List.append_assoc] at hg
  unfold fall
  rw [hg, if_neg (by simp), if_neg (by simp)]
  show fallGo _ L.length [] 0 _ = _
  rw [fallGo_rise L _ r 0 _ [] (by rw [List.append_assoc]; simp) hr hx]
  simp

theorem fallGo_back : ∀ (k : Nat) (l : List UInt8) (acc : List Int) (last at_ : Nat) (L : List Int) (z : Int), fallGo l k acc last at_ = (L, z, 0) → at_ ≤ l.length → last ≤ 9223372036854775807 →
    ∃ M : List Int, L = acc ++ M ∧ M.length = k ∧ Rises last M ∧ (∀ x ∈ M, x ≤ 9223372036854775807) ∧ z = ((at_ + (encL (rise last M)).length : Nat) : Int) ∧ (l.drop at_).take (encL (rise last M)).length = encL (rise last M) ∧ at_ + (encL (rise last M)).length ≤ l.length
  | 0, l, acc, last, at_, L, z, h, ha, _ => by
    simp only [fallGo] at h
    injection h with h1 h2
    injection h2 with h2 _
    exact ⟨[], by simp [h1], rfl, trivial, by simp, by simp [rise, encL, h2], by simp [rise, encL], by simpa [rise, encL] using ha⟩
  | k + 1, l, acc, last, at_, L, z, h, ha, hl => by
    generalize hg : get (l.drop at_) = g at h
    obtain ⟨n, sz, e⟩ := g
    by_cases he : e = 0
    · subst he
      by_cases hn : n = 0 ∨ 9223372036854775807 - last < n
      · rw [fallGo_form hg hn] at h
        simp at h
      · rw [fallGo_on hg hn] at h
        obtain ⟨hb1, hb2⟩ := get_back hg
        have hf := (get_facts (l.drop at_)).2.1 (by rw [hg])
        rw [hg] at hf
        simp only [List.length_drop] at hf
        obtain ⟨M, h1, h2, h3, h4, h5, h6, h7⟩ := fallGo_back k l _ _ _ L z h (by omega) (by omega)
        have e : encL (rise last (((last + n : Nat) : Int) :: M)) = enc n ++ encL (rise ((last + n : Nat) : Int) M) := by
          simp only [encL, rise, List.flatMap_cons]
          rw [show (((last + n : Nat) : Int) - (last : Int)).toNat = n by omega]
        refine ⟨((last + n : Nat) : Int) :: M, by rw [h1]; simp, by simp [h2], ⟨by omega, h3⟩, ?_, ?_, ?_, ?_⟩
        · intro x hx
          rcases List.mem_cons.1 hx with rfl | hx
          · omega
          · exact h4 x hx
        · rw [h5, e, List.length_append, hb1]; omega
        · rw [e, List.length_append, List.take_add, ← hb1, hb2, List.drop_drop, h6]
        · rw [e, List.length_append, ← hb1]; omega
    · rw [fallGo_err hg he] at h
      simp at h
      omega

/-- What is read has just these bytes. -/
theorem fall_back {l : List UInt8} {most z : Int} {L : List Int} (h : fall l most = (L, z, 0)) :
    Rises 0 L ∧ (∀ x ∈ L, x ≤ 9223372036854775807) ∧ z = ((enc L.length ++ encL (rise 0 L)).length : Int) ∧ l.take (enc L.length ++ encL (rise 0 L)).length = enc L.length ++ encL (rise 0 L) ∧ (enc L.length ++ encL (rise 0 L)).length ≤ l.length := by
  unfold fall at h
  generalize hg : get l = g at h
  obtain ⟨n, sz, e⟩ := g
  simp only at h
  split at h
  · simp at h; omega
  · rename_i he
    have he : e = 0 := by omega
    subst he
    split at h
    · simp at h
    · obtain ⟨hb1, hb2⟩ := get_back hg
      have hf := (get_facts l).2.1 (by rw [hg])
      rw [hg] at hf
      simp only at hf
      obtain ⟨M, h1, h2, h3, h4, h5, h6, h7⟩ := fallGo_back n l [] 0 sz L z h (by omega) (by omega)
      obtain rfl : L = M := by simpa using h1
      rw [h2]
      refine ⟨h3, h4, ?_, ?_, ?_⟩
      · rw [h5, List.length_append, hb1]; rfl
      · rw [List.length_append, List.take_add, ← hb1, hb2]
        congr 1
      · rw [List.length_append, ← hb1]; exact h7
end VaryM
end Go.Proofs.YtfjgpjgphdiliaaGreat

/- Part 21 of the proof: texts joined by this repo's tools/merge2.py (Text TextB RollQ RollG RollN RollJ RollO LetterR0). By the prover of this repo. -/
import Derived.Test.YteebghoijaaakaaGreatM20
import Derived.Test.YteebghoijaaakaaGreatM17
import Derived.Test.YteebghoijaaakaaGreatM5
import Derived.Test.YteebghoijaaakaaGreatM15
import Derived.Test.YteebghoijaaakaaGreatM9
import Derived.StillTailTactics
import Derived.Lib.AppendZerosOnto
import Derived.Lib.SliceRun
import Derived.Test.YteebghoijaaakaaGreatM19
import Derived.Test.YteebghoijaaakaaGreatM18
set_option linter.unusedVariables false
set_option linter.unusedSimpArgs false
/- The walk of sheet.Text: a digest's lines. By the prover of this repo. -/
namespace Go.Proofs.YteebghoijaaakaaGreat
open Go.RowKit
open TwigM RollM StoM

abbrev BldL (B b : Nat) (l : List UInt8) (w : World) : Prop := IsBld B b (Lib.byteCells l) w
theorem bldL_kept {B b : Nat} {l : List UInt8} {w w' : World} (h : BldL B b l w) (hb : Below w.heap.size w w') : BldL B b l w' := by
  have key : ∀ p, Lib.BuilderAt 87 5 B b p (Lib.byteCells l) w → Lib.BuilderAt 87 5 B b p (Lib.byteCells l) w' := by
    rintro p ⟨hB, v, hbk, ho, hne⟩
    exact ⟨hB, v, (hb.block b (Array.getElem?_eq_some_iff.1 hbk).1).trans hbk, own_kept ho hb, hne⟩
  rcases h with h | h
  · exact .inl (key _ h)
  · exact .inr (key _ h)
def catS : List ByteArray → List UInt8
  | [] => []
  | s :: r => s.data.toList ++ catS r
def tellL (ws : List ByteArray) : List UInt8 := catS ws ++ [10]
theorem catS_app : ∀ a b : List ByteArray, catS (a ++ b) = catS a ++ catS b
  | [], b => rfl
  | s :: a, b => by rw [List.cons_append, catS, catS, catS_app a b, List.append_assoc]
theorem catS_next (ws : List ByteArray) (i : Nat) (hi : i < ws.length) : catS (ws.take (i + 1)) = catS (ws.take i) ++ ws[i].data.toList := by
  rw [List.take_succ_eq_append_getElem hi, catS_app]
  simp [catS]
theorem catS_le (ws : List ByteArray) (i : Nat) : (catS (ws.take i)).length ≤ (catS ws).length := by
  have : catS ws = catS (ws.take i) ++ catS (ws.drop i) := by rw [← catS_app, List.take_append_drop]
  rw [this]; simp
set_option maxRecDepth 100000 in
set_option maxHeartbeats 1000000 in
theorem text_tell (B b g c : Nat) (l : List UInt8) (ws : List ByteArray) (w : World) (h : BldL B b l w) (hB : B ≤ w.heap.size) (hg : Blk w g 9 (ws.map Value.string).toArray) (hl : l.length + (tellL ws).length ≤ 140737488355328) (hws : ws.length ≤ c) (hc : c ≤ 1000000) :
    Calls Tryz.prog 44 #[.slice (some ⟨g, 0, none⟩) ws.length c, .pointer (some ⟨b, 0, none⟩)] w fun e w' => (∃ v, e = .returned v) ∧ BldL B b (l ++ tellL ws) w' ∧ Below B w w' ∧ KeepB w w' := by
  have hst := hide (show BldL B b (l ++ catS (ws.take 0)) w by rw [List.take_zero]; simpa [catS] using h)
  have hgh := hide hg
  have hnx := hide (fun i hi => catS_next ws i hi)
  have hle := hide (fun i => catS_le ws i)
  have hlen : Hid (l.length + (catS ws).length + 1 ≤ 140737488355328) := by
    have : (tellL ws).length = (catS ws).length + 1 := by simp [tellL]
    show _ ≤ _; omega
  have hall : Hid (catS (ws.take ws.length) = catS ws) := by show _ = _; rw [List.take_length]
  obtain ⟨n, hn⟩ : ∃ n, Hid (ws.length = n) := ⟨_, rfl⟩
  rw [hn.out] at hall hws ⊢
  clear h hg hl
  go_enter Tryz.func44, Tryz.ntmps44
  go_wp2_with fail
  go_loopw [7] (fun kv wr => ∃ i : Nat, kv = .int .i64 i ∧ i ≤ n ∧ Hid (BldL B b (l ++ catS (ws.take i)) wr) ∧ Hid (Below B w wr) ∧ Hid (KeepB w wr)) (fun kv _ => n - (intOf kv).toNat)
  case atStart => exact ⟨0, rfl, by omega, hst, Below.refl _ _, KeepB.refl _⟩
  case round =>
    obtain ⟨i, rfl, hi, hb, hbel, hkp⟩ := hrel
    clear hst
    have hz := hbel.out.size
    by_cases hlt : i < n
    · have hil : i < ws.length := by rw [hn.out]; exact hlt
      have bg := hkp.out.blk hgh.out (by decide) (by decide)
      have c0 : wr.cell? ⟨g, i, none⟩ = some (.string ws[i]) := by rw [bg.cell]; simp [hil]
      have hgl := bg.lt
      have h1 := hle.out (i + 1)
      have h2 := hnx.out i hil
      have hlo := hlen.out
      rw [h2, List.length_append] at h1
      have hsz : (Lib.byteCells (l ++ catS (ws.take i))).length + ws[i].size ≤ 140737488355328 := by
        rw [Lib.byteCells_length, List.length_append]
        have : ws[i].data.toList.length = ws[i].size := by simp
        omega
      have hW := hide (bld_text B b _ ws[i] wr hb.out hsz (by omega))
      have hnew : Hid (Lib.byteCells (l ++ catS (ws.take i)) ++ Lib.strCells ws[i] = Lib.byteCells (l ++ catS (ws.take (i + 1)))) := by
        show _ = _
        rw [h2, Lib.strCells_eq]
        simp [Lib.byteCells]
      clear bg h1 h2 hlo hsz
      generalize ws[i] = s at *
      go_wp2_with (go_at_call 45; refine hW.out.mono ?_; rintro e w2 ⟨rfl, k1, k2, k3⟩; have k1 := hide k1; have k2 := hide k2; have k3 := hide k3)
      go_roundw
      case rel => exact ⟨i + 1, by go_num, by omega, .inr (by rw [← hnew.out]; exact k1.out), hbel.out.trans k2.out, hkp.out.trans k3.out⟩
      case measure => simp [intOf]; omega
    · obtain rfl : i = n := by omega
      have hb2 := hb.out
      rw [hall.out] at hb2
      have hW := hide (bld_byte B b (Lib.byteCells (l ++ catS ws)) 10 wr hb2 (by rw [Lib.byteCells_length, List.length_append]; exact hlen.out) (by omega))
      have hnew : Hid (Lib.byteCells (l ++ catS ws) ++ [.int .u8 10] = Lib.byteCells (l ++ tellL ws)) := by
        show _ = _
        unfold tellL
        simp [Lib.byteCells]
      clear hb hb2
      go_wp2_with (go_at_call 46; refine hW.out.mono ?_; rintro e w2 ⟨rfl, k1, k2, k3⟩; have k1 := hide k1; have k2 := hide k2; have k3 := hide k3)
      go_end0
      exact ⟨⟨_, rfl⟩, .inr (by rw [← hnew.out]; exact k1.out), hbel.out.trans k2.out, hkp.out.trans k3.out⟩
end Go.Proofs.YteebghoijaaakaaGreat
/- The walk of sheet.Text, on: all lines. By the prover of this repo. -/
namespace Go.Proofs.YteebghoijaaakaaGreat
open Go.RowKit
open TwigM RollM StoM

theorem digF_len : ∀ (k n : Nat), n < 10 ^ (k + 1) → (digF n).length ≤ k + 1
  | 0, n, h => by rw [digF_small (by simpa using h)]; simp
  | k + 1, n, h => by
    by_cases h1 : n < 10
    · rw [digF_small h1]; simp
    · rw [digF_more h1, List.length_append]
      have := digF_len k (n / 10) (pow10 (k + 1) n h)
      simp; omega
theorem digS_len {n : Int} (h : n ≤ 9223372036854775807) : (digS n).data.toList.length ≤ 20 := by
  unfold digS
  split
  · show (⟨#[]⟩ : ByteArray).size ≤ 20; decide
  · have := digF_len 19 n.toNat (by show n.toNat < 100000000000000000000; omega)
    show (digF n.toNat).toArray.toList.length ≤ 20
    simpa using this
def sDigest : ByteArray := ⟨#[100, 105, 103, 101, 115, 116, 32]⟩
def sBlank : ByteArray := ⟨#[32]⟩
def sDots : ByteArray := ⟨#[46, 46]⟩
def headW (L K S : Int) : List ByteArray := [sDigest, digS L, sBlank, digS K, sBlank, digS S]
def lineW (L : Int) (p : Nd) : List ByteArray := [digS (loF L p.1), sDots, digS (loF L p.1 + pw (L - lg p.1) - 1), sBlank, digS p.2]
def linesL (L : Int) : List Nd → List UInt8
  | [] => []
  | p :: l => tellL (lineW L p) ++ linesL L l
/-- A digest's lines. -/
def textL (L K : Int) (l : List Nd) : List UInt8 := tellL (headW L K (sumL l)) ++ linesL L l
theorem linesL_app (L : Int) : ∀ a b : List Nd, linesL L (a ++ b) = linesL L a ++ linesL L b
  | [], b => rfl
  | p :: a, b => by rw [List.cons_append, linesL, linesL, linesL_app L a b, List.append_assoc]
theorem linesL_next (L : Int) (l : List Nd) (i : Nat) (hi : i < l.length) : linesL L (l.take (i + 1)) = linesL L (l.take i) ++ tellL (lineW L l[i]) := by
  rw [List.take_succ_eq_append_getElem hi, linesL_app]
  simp [linesL]
theorem head_len {L K S : Int} (h1 : L ≤ 9223372036854775807) (h2 : K ≤ 9223372036854775807) (h3 : S ≤ 9223372036854775807) : (tellL (headW L K S)).length ≤ 100 := by
  have a := digS_len h1
  have b := digS_len h2
  have c := digS_len h3
  have d : sDigest.data.toList.length = 7 := rfl
  have e : sBlank.data.toList.length = 1 := rfl
  simp only [tellL, headW, catS, List.length_append, List.length_cons, List.length_nil, d, e]
  omega
theorem line_len {L : Int} {p : Nd} (h1 : loF L p.1 ≤ 9223372036854775807) (h2 : loF L p.1 + pw (L - lg p.1) - 1 ≤ 9223372036854775807) (h3 : p.2 ≤ 9223372036854775807) : (tellL (lineW L p)).length ≤ 100 := by
  have a := digS_len h1
  have b := digS_len h2
  have c := digS_len h3
  have d : sDots.data.toList.length = 2 := rfl
  have e : sBlank.data.toList.length = 1 := rfl
  simp only [tellL, lineW, catS, List.length_append, List.length_cons, List.length_nil, d, e]
  omega
theorem lines_len {L : Int} : ∀ {l : List Nd}, (∀ p ∈ l, (tellL (lineW L p)).length ≤ 100) → (linesL L l).length ≤ 100 * l.length
  | [], _ => by simp [linesL]
  | p :: l, h => by
    have h1 := h p (by simp)
    have h2 := lines_len (l := l) fun q hq => h q (by simp [hq])
    rw [linesL, List.length_append, List.length_cons]; omega
set_option maxRecDepth 100000 in
set_option maxHeartbeats 4000000 in
theorem sheet_text (d p : Nat) (K kd L : Int) (l : List Nd) (F : Nat → Prop) (w : World) (h : DigAt w d p K kd L l F) :
    Calls Tryz.prog 15 #[.pointer (some ⟨d, 0, none⟩)] w fun e w' => e = .returned (.tuple #[.string ⟨(textL L K l).toArray⟩, .int .i64 0]) ∧ Below w.heap.size w w' := by
  obtain ⟨hL1, hL2⟩ := h.pool.uni
  have hK1 := h.k1
  have hK2 := h.k2
  have hs1 := h.pool.sum
  have hC := hide (fun W (hW : Below w.heap.size w W) => digest_conf d p K kd L l F W (h.kept hW))
  have hN := hide (fun W (hW : Below w.heap.size w W) => digest_n d p K kd L l F W (h.kept hW))
  have hNd := hide (fun W (hW : Below w.heap.size w W) => digest_nodes d p K kd L l F W (h.kept hW))
  have hE := hide (fun (id : Int) (W : World) (h1 : 1 ≤ id) (h2 : id < 2 * pw L) => ends_yes L id W hL1 hL2 h1 h2)
  have hDg := hide (fun (x : Int) (W : World) (hx : x ≤ 9223372036854775807) => sheet_digits x W hx)
  have hinu := hide h.pool.inU
  have hall := hide h.pool.allU
  have hll := h.pool.len
  have hhd := head_len (L := L) (K := K) (S := sumL l) (by omega) (by omega) (by omega)
  have hln : ∀ q ∈ l, (tellL (lineW L q)).length ≤ 100 := fun q hq => by
    obtain ⟨u1, u2⟩ := h.pool.inU q hq
    obtain ⟨v1, v2, v3⟩ := ends_in (show 1 ≤ L from hL1) u1 u2
    have := pw_le48 hL2
    unfold hiF at v2 v3
    exact line_len (by omega) (by omega) (by have := h.pool.allU q hq; omega)
  have hlb := hide (fun i => lines_len (L := L) (l := l.take i) fun q hq => hln q (List.mem_of_mem_take hq))
  have hlnh := hide hln
  have hnx := hide (fun i hi => linesL_next L l i hi)
  have hfin : Hid (⟨(textL L K l).toArray⟩ = (⟨(tellL (headW L K (sumL l)) ++ linesL L (l.take l.length)).toArray⟩ : ByteArray)) := by show _ = _; rw [List.take_length]; rfl
  clear h hln
  generalize hTT : (⟨(textL L K l).toArray⟩ : ByteArray) = TT at *
  generalize sumL l = S at *
  obtain ⟨n, hn⟩ : ∃ n, Hid (l.length = n) := ⟨_, rfl⟩
  rw [hn.out] at hfin hll
  unfold conf at hC
  clear hTT
  have hbl : BldL w.heap.size w.heap.size [] (w.alloc (.cells #[.pointer none, .slice none 0 0] 87)) := Lib.fresh_isBuilder _ _ w
  have hbl := hide hbl
  have hb0 := balloc0 w (.cells #[.pointer none, .slice none 0 0] 87)
  go_enter Tryz.func15, Tryz.ntmps15
  go_wp2_with fail
  refine Calls.mono (hC.out _ hb0) ?_
  rintro e w1 ⟨rfl, hb1⟩
  have hbl1 := hide (bldL_kept (bldL_kept hbl.out hb1) (balloc0 w1 (.cells #[.int .i64 L, .int .i64 K, .int .i64 kd] 42)))
  have bC := Blk.made w1 42 #[.int .i64 L, .int .i64 K, .int .i64 kd]
  have hz0 : (w.alloc (.cells #[.pointer none, .slice none 0 0] 87)).heap.size = w.heap.size + 1 := by simp
  have hz1 := hb1.size
  have hb2 := (hb0.trans (hb1.mono (by omega))).trans ((balloc0 w1 (.cells #[.int .i64 L, .int .i64 K, .int .i64 kd] 42)).mono (by omega))
  clear hb1 hb0 hbl
  obtain ⟨cb, hcb⟩ : ∃ cb, w1.heap.size = cb := ⟨_, rfl⟩
  go_wp2_with fail
  rw [hcb] at bC
  have hcbw : w.heap.size + 1 ≤ cb := by omega
  generalize (w1.alloc (.cells #[.int .i64 L, .int .i64 K, .int .i64 kd] 42)) = w2 at *
  clear hz1 hcb hz0
  have q0 := bC.cell 0
  have q1 := bC.cell 1
  have q2 := bC.lt
  have hN1 := hide (fun (e : Later w2.heap.size w2) => hN.out e.val (hb2.trans (e.property.mono hb2.size)))
  have hb2 := hide hb2
  have bC := hide bC
  refine wp_later_tail1 10 (.tmp 5) (.func (.func 44) #[] #[.pointer (some ⟨w.heap.size, 0, none⟩)]) rfl rfl rfl (by kernel_rfl) (by omega) (by kernel_rfl) (fun _ _ _ h => h) ?_
  simp only [List.take_succ_cons, List.take_zero, List.drop_succ_cons, List.drop_zero, Act.put, List.setIfInBounds_toArray, List.set_cons_zero, List.set_cons_succ]
  repeat (go_big_quiet_step (first
    | (go_at_call 47; exact calls_later (hDg.out _ _ (by omega)))
    | (go_at_call 30; exact calls_later (hN1.out _))
    | exact rfl))
  refine wpQuiet_nil ?_
  rintro _ ⟨e3, rfl⟩
  have hbl3 := hide (bldL_kept hbl1.out e3.property)
  have bC3 := hide (bC.out.kept e3.property)
  have hb3 := hide (hb2.out.trans (e3.property.mono hb2.out.size))
  clear q0 q1 q2 hN1
  generalize e3.val = w3 at *
  clear e3
  have hz3 := hb3.out.size
  have hbl4 := hide (bldL_kept hbl3.out (balloc0 w3 (.cells #[.string ⟨#[100, 105, 103, 101, 115, 116, 32]⟩, .string (digS L), .string ⟨#[32]⟩, .string (digS K), .string ⟨#[32]⟩, .string (digS S)] 9)))
  have hb4 := hide (hb3.out.trans ((balloc0 w3 (.cells #[.string ⟨#[100, 105, 103, 101, 115, 116, 32]⟩, .string (digS L), .string ⟨#[32]⟩, .string (digS K), .string ⟨#[32]⟩, .string (digS S)] 9)).mono hz3))
  have bC4 := hide (bC3.out.alloc (.cells #[.string ⟨#[100, 105, 103, 101, 115, 116, 32]⟩, .string (digS L), .string ⟨#[32]⟩, .string (digS K), .string ⟨#[32]⟩, .string (digS S)] 9))
  have bG : Blk (w3.alloc (.cells #[.string ⟨#[100, 105, 103, 101, 115, 116, 32]⟩, .string (digS L), .string ⟨#[32]⟩, .string (digS K), .string ⟨#[32]⟩, .string (digS S)] 9)) w3.heap.size 9 ((headW L K S).map Value.string).toArray := Blk.made w3 _ _
  have hTl := hide (text_tell w.heap.size w.heap.size w3.heap.size 6 [] (headW L K S) _ hbl4.out hb4.out.size bG (by simp only [List.length_nil]; omega) (Nat.le_refl _) (by omega))
  have hlw : (headW L K S).length = 6 := rfl
  rw [hlw] at hTl
  clear bG hlw
  go_wp2_with (go_at_call 44; refine hTl.out.mono ?_; rintro e w5 ⟨⟨v5, rfl⟩, k1, k2, k3⟩; have k1 := hide k1; have k2 := hide k2; have k3 := hide k3)
  have hb5 := hide (hb4.out.trans k2.out)
  have bC5 := hide (k3.out.blk bC4.out (by decide) (by decide))
  refine Calls.mono (hNd.out _ hb5.out) ?_
  rintro e w6 ⟨v6, rfl, hv6, hb6⟩
  rw [hn.out] at hv6
  obtain ⟨A, c, rfl, hA1, hA2, hA3⟩ := own_form hv6
  have hz5 := hb5.out.size
  have hv6 := hide (own_dn hz5 hv6)
  have hbl6 := hide (bldL_kept k1.out hb6)
  have bC6 := hide (bC5.out.kept hb6)
  have hb6 := hide (hb5.out.trans (hb6.mono hz5))
  clear hbl1 hbl3 hbl4 bC bC3 bC4 bC5 hb2 hb3 hb4 hTl k1 k2 k3 hz3
  go_wp2_with fail
  go_loopw [32] (fun kv wr => ∃ i : Nat, kv = .int .i64 i ∧ i ≤ n ∧ Hid (BldL w.heap.size w.heap.size (tellL (headW L K S) ++ linesL L (l.take i)) wr) ∧ Hid (Blk wr cb 42 #[.int .i64 L, .int .i64 K, .int .i64 kd]) ∧ Hid (wr.ownsRow w.heap.size 67 2 (.slice A n c) n (ndv l)) ∧ Hid (Below w.heap.size w wr)) (fun kv _ => n - (intOf kv).toNat)
  case atStart => exact ⟨0, rfl, by omega, by rw [List.take_zero, linesL, List.append_nil]; exact hbl6, bC6, hv6, hb6⟩
  case round =>
    obtain ⟨i, rfl, hi, hbl, bC, hrow, hbel⟩ := hrel
    clear hbl6 bC6 hv6 hb6
    by_cases hlt : i < n
    · have hil : i < l.length := by rw [hn.out]; exact hlt
      have hro := hrow.out
      rw [← hn.out] at hro
      obtain ⟨g, cap, e1, hg, cx, cn⟩ := nd_at hro hil
      injection e1 with e1 e2 e3
      subst e1 e3
      have hid := hinu.out _ (List.getElem_mem hil)
      have hal := hall.out _ (List.getElem_mem hil)
      have hl1 := hlnh.out _ (List.getElem_mem hil)
      have hl2 := hlb.out i
      have hn1 := hide (hnx.out i hil)
      have htk : (l.take i).length ≤ i := by rw [List.length_take]; omega
      clear hro
      generalize l[i] = q at *
      obtain ⟨id, cnt⟩ := q
      simp only at cx cn hid hal
      have hbs := hbel.out.size
      have f0 := bC.out.cell 0
      have f1 := bC.out.lt
      have hE1 := hide (fun W => hE.out id W hid.1 hid.2)
      have bN := Blk.made wr 67 #[.int .i64 id, .int .i64 cnt]
      have hends := ends_in hL1 hid.1 hid.2
      have hp48 := pw_le48 hL2
      unfold hiF at hends
      obtain ⟨y1, y2, y3⟩ := hends
      go_wp2_with fail
      refine Calls.mono (hE1.out _) ?_
      rintro e w7 ⟨rfl, m, rfl⟩
      have hb7 := below_drewN (balloc0 wr (.cells #[.int .i64 id, .int .i64 cnt] 67)) m
      have hbl7 := hide (bldL_kept hbl.out hb7)
      have bC7 := hide (bC.out.kept hb7)
      have bN7 := hide (bN.drewN m)
      have hrow7 : Hid (((wr.alloc (.cells #[.int .i64 id, .int .i64 cnt] 67)).drewN m).ownsRow w.heap.size 67 2 (.slice (some ⟨g, 0, none⟩) n c) n (ndv l)) := hide (hrow.out.alloc _)
      have hbel7 := hide (hbel.out.trans (hb7.mono hbs))
      have z1 := bN7.out.cell 1
      have z2 := bN7.out.lt
      clear f0 f1 hb7 bN cx cn hg
      go_wp2_with fail
      generalize ((wr.alloc (.cells #[.int .i64 id, .int .i64 cnt] 67)).drewN m) = w8 at *
      refine wp_later_tail1 8 (.tmp 5) (.func (.func 44) #[] #[.pointer (some ⟨w.heap.size, 0, none⟩)]) rfl rfl rfl (by kernel_rfl) (by omega) (by kernel_rfl) (fun _ _ _ h => h) ?_
      simp only [List.take_succ_cons, List.take_zero, List.drop_succ_cons, List.drop_zero, Act.put, List.setIfInBounds_toArray, List.set_cons_zero, List.set_cons_succ]
      repeat (go_big_quiet_step (first
        | (go_at_call 47; exact calls_later (hDg.out _ _ (by omega)))
        | exact rfl))
      refine wpQuiet_nil ?_
      rintro _ ⟨e9, rfl⟩
      have hbl9 := hide (bldL_kept hbl7.out e9.property)
      have bC9 := hide (bC7.out.kept e9.property)
      have hrow9 := hide (own_kept hrow7.out e9.property)
      have hbel9 := hide (hbel7.out.trans (e9.property.mono hbel7.out.size))
      clear z1 z2
      generalize e9.val = w9 at *
      clear e9
      have hz9 := hbel9.out.size
      have hbl10 := hide (bldL_kept hbl9.out (balloc0 w9 (.cells #[.string (digS (loF L id)), .string ⟨#[46, 46]⟩, .string (digS (loF L id + pw (L - lg id) - 1)), .string ⟨#[32]⟩, .string (digS cnt)] 9)))
      have bC10 := hide (bC9.out.alloc (.cells #[.string (digS (loF L id)), .string ⟨#[46, 46]⟩, .string (digS (loF L id + pw (L - lg id) - 1)), .string ⟨#[32]⟩, .string (digS cnt)] 9))
      have hrow10 := hide (hrow9.out.alloc (.cells #[.string (digS (loF L id)), .string ⟨#[46, 46]⟩, .string (digS (loF L id + pw (L - lg id) - 1)), .string ⟨#[32]⟩, .string (digS cnt)] 9))
      have hbel10 := hide (hbel9.out.trans ((balloc0 w9 (.cells #[.string (digS (loF L id)), .string ⟨#[46, 46]⟩, .string (digS (loF L id + pw (L - lg id) - 1)), .string ⟨#[32]⟩, .string (digS cnt)] 9)).mono hz9))
      have bG : Blk (w9.alloc (.cells #[.string (digS (loF L id)), .string ⟨#[46, 46]⟩, .string (digS (loF L id + pw (L - lg id) - 1)), .string ⟨#[32]⟩, .string (digS cnt)] 9)) w9.heap.size 9 ((lineW L (id, cnt)).map Value.string).toArray := Blk.made w9 _ _
      have hTl := hide (text_tell w.heap.size w.heap.size w9.heap.size 5 (tellL (headW L K S) ++ linesL L (l.take i)) (lineW L (id, cnt)) _ hbl10.out hbel10.out.size bG (by rw [List.length_append]; omega) (Nat.le_refl _) (by omega))
      have hlw : (lineW L (id, cnt)).length = 5 := rfl
      rw [hlw] at hTl
      clear bG hlw
      go_wp2_with (go_at_call 44; refine hTl.out.mono ?_; rintro e w11 ⟨⟨v11, rfl⟩, k1, k2, k3⟩; have k1 := hide k1; have k2 := hide k2; have k3 := hide k3)
      go_roundw
      case rel => exact ⟨i + 1, by go_num, by omega, by rw [hn1.out, ← List.append_assoc]; exact k1.out, k3.out.blk bC10.out (by decide) (by decide), k3.out.row hrow10.out (by decide) (by decide), hbel10.out.trans k2.out⟩
      case measure => simp [intOf]; omega
    · obtain rfl : i = n := by omega
      have hB := hide (Tryz.Builder_String_any w.heap.size w.heap.size _ wr hbl.out hbel.out.size)
      rw [← hfin.out] at hB
      clear hbl hrow bC
      go_wp2_with fail
      refine Calls.mono hB.out ?_
      rintro e w7 ⟨rfl, hb7⟩
      have hb7 := hide (hbel.out.trans hb7)
      go_wp2_with fail
      go_ret2
      exact ⟨rfl, hb7.out⟩
end Go.Proofs.YteebghoijaaakaaGreat
/- The walks of layer 6, on: the reference's list by rising numbers. By the prover of this repo. -/
namespace Go.Proofs.YteebghoijaaakaaGreat
open Go.RowKit
open TwigM RollM

/-- Element j of a list that a call has made. -/
theorem Ndo.at {w : World} {v : Value} {l : List Nd} (h : Ndo w v l) {j : Nat} (hj : j < l.length) :
    ∃ g c, v = .slice (some ⟨g, 0, none⟩) l.length c ∧ l.length ≤ c ∧ c ≤ maxLen ∧ g < w.heap.size ∧ w.cell? ⟨g, j * 2, none⟩ = some (.int .i64 l[j].1) ∧ w.cell? ⟨g, j * 2 + 1, none⟩ = some (.int .i64 l[j].2) := by
  rcases h with ⟨rfl, rfl⟩ | ⟨g, c, rfl, h2, h3, h4⟩
  · simp at hj
  · obtain ⟨b, off, e, hb, c0, c1⟩ := rd_at h4 hj
    injection e with e
    injection e with e1 e2
    subst e1 e2
    rw [Nat.zero_add] at c0 c1
    exact ⟨_, c, rfl, h2, h3, hb, c0, c1⟩
theorem Ndo.len {w : World} {v : Value} {l : List Nd} (h : Ndo w v l) : ∃ A c, v = .slice A l.length c := by
  rcases h with ⟨rfl, rfl⟩ | ⟨g, c, rfl, _⟩
  · exact ⟨none, 0, rfl⟩
  · exact ⟨_, c, rfl⟩
/-- All from place j on stand behind x. -/
def Behind (lt : Nd → Nd → Bool) (x : Nd) (l : List Nd) (j : Nat) : Prop := ∀ i, j ≤ i → ∀ h : i < l.length, lt x l[i] = true
theorem Behind.end_ (lt : Nd → Nd → Bool) (x : Nd) (l : List Nd) : Behind lt x l l.length := fun i h1 h2 => by omega
theorem Behind.step {lt : Nd → Nd → Bool} {x : Nd} {l : List Nd} {j : Nat} (h : Behind lt x l (j + 1)) (hj : j < l.length) (hx : lt x l[j] = true) : Behind lt x l j := fun i h1 h2 => by
  by_cases e : i = j
  · subst e; exact hx
  · exact h i (by omega) h2
theorem Behind.ins {lt : Nd → Nd → Bool} (O : Ord lt) {x : Nd} {k : List Nd} {j : Nat} (h : Behind lt x (isort lt k) j) (hj : j ≤ (isort lt k).length) (h0 : ∀ h : j - 1 < (isort lt k).length, 0 < j → lt x (isort lt k)[j - 1] = false) :
    (isort lt k).take j ++ x :: (isort lt k).drop j = isort lt (k ++ [x]) := by
  rw [isort_snoc]
  exact ins_at O x _ j (isort_srt O k) hj h h0

end Go.Proofs.YteebghoijaaakaaGreat
/- The walks of layer 6, on: the reference's each number once. By the prover of this repo. -/
namespace Go.Proofs.YteebghoijaaakaaGreat
open Go.RowKit
open TwigM RollM

end Go.Proofs.YteebghoijaaakaaGreat
/- The walks of layer 6, on: slices.Grow of the nil slice. By the prover of this repo. -/
namespace Go.Proofs.YteebghoijaaakaaGreat
open Go.RowKit
open TwigM RollM

set_option maxRecDepth 100000 in
set_option maxHeartbeats 4000000 in
theorem grow_nil (n : Nat) (w : World) (hl : n ≤ 1000000) : Calls Tryz.prog 147 #[.slice none 0 0, .int .i64 n] w fun e w' => ∃ v, e = .returned v ∧ w'.ownsRow w.heap.size 67 2 v 0 [] ∧ Below w.heap.size w w' := by
  by_cases h0 : n = 0
  · subst h0
    go_enter Tryz.func147, Tryz.ntmps147
    go_wp2_with fail
    go_ret
    exact ⟨_, rfl, World.ownsRow_nil _ _ _ _, Below.refl _ _⟩
  · obtain ⟨i, hi, hz, hs, hby⟩ := info_parts elNode.info
    have hap := Lib.run_append_grow_zeros (P := Tryz.prog) w 64 3 64 67 i (nv (0, 0)) .i64 .i64 Tryz.underlying64 Tryz.underlying3 hi hz none 0 0 [] (run_firstCells_none w.drew i.size 0 0 0) n (by omega) (by rw [hs]; omega) (by omega) (by omega) (by rw [hby]; omega) (by rw [hby, Nat.zero_add, nextslicecap_zero (by omega)]; omega)
    have hge := grownCap_ge w (0 + n) 0 67
    have hle := grownCap_le_maxLen w (0 + n) 0 67 (by unfold maxLen; omega)
    generalize grownCap w (0 + n) 0 67 = G at *
    have hown : Hid ((w.drew.alloc (.cells (([] : List Value).toArray ++ Builtin.zeroCells (nv (0, 0)).cells n ++ Builtin.zeroCells (nv (0, 0)).cells (G - (0 + n))) 67)).ownsRow w.heap.size 67 2 (.slice (some ⟨w.heap.size, 0, none⟩) 0 G) 0 []) := by
      refine ⟨by simp, .inr ⟨w.heap.size, G, _, rfl, Nat.le_refl _, heap_alloc_new w.drew _, Nat.zero_le _, hle, ?_, by simp⟩⟩
      rw [Array.size_append, Array.size_append, size_zeroCells, size_zeroCells, show (nv (0, 0)).cells.size = 2 from rfl]
      simp
      omega
    generalize Obj.cells (([] : List Value).toArray ++ Builtin.zeroCells (nv (0, 0)).cells n ++ Builtin.zeroCells (nv (0, 0)).cells (G - (0 + n))) 67 = o at *
    rw [Nat.zero_add] at hap hge
    replace hap := hide hap
    clear hi hz hs hby hle
    go_enter Tryz.func147, Tryz.ntmps147
    go_wp2_with (at_builtin; refine Lib.wpList_append_run _ rfl _ _ _ _ rfl _ _ rfl rfl _ _ hap.out ?_)
    go_ret
    exact ⟨_, rfl, hown.out, balloc (Below.refl _ _).drew _⟩
end Go.Proofs.YteebghoijaaakaaGreat
/- The walks of layer 6, on: two lists as one. By the prover of this repo. -/
namespace Go.Proofs.YteebghoijaaakaaGreat
open Go.RowKit
open TwigM RollM

theorem nd_append {a b : List Nd} (ha : NdWf a) (hb : NdWf b) : NdWf (a ++ b) := fun p hp => (List.mem_append.1 hp).elim (ha p) (hb p)

end Go.Proofs.YteebghoijaaakaaGreat
/- The walks of layer 6, on: slices.Concat of two lists, and the program's Join. By the prover of this repo. -/
namespace Go.Proofs.YteebghoijaaakaaGreat
open Go.RowKit
open TwigM RollM

set_option maxRecDepth 100000 in
set_option maxHeartbeats 4000000 in
theorem concat_c (g : Nat) (A B : Option Addr) (ca cb : Nat) (a b : List Nd) (w : World) (hB2 : Blk w g 64 #[.slice A a.length ca, .slice B b.length cb]) (hr : Rd w A a.length 2 (ndc a)) (hs : Rd w B b.length 2 (ndc b)) (hA : A = none → a.length = 0) (hB : B = none → b.length = 0) (hl : a.length + b.length ≤ 1000000) :
    Calls Tryz.prog 98 #[.slice (some ⟨g, 0, none⟩) 2 2] w fun e w' => ∃ v, e = .returned v ∧ Nds w' v (a ++ b) ∧ Below w.heap.size w w' := by
  have hra := hide (ndv_range a)
  have hrb := hide (ndv_range b)
  have hab := hide (ndv_append a b)
  have hlen : Hid ((a ++ b).length = a.length + b.length) := by show _ = _; simp
  have hoa := hide (ndc_one a)
  have hob := hide (ndc_one b)
  have hrH := hide hr
  have hsH := hide hs
  have hg := hB2.lt
  have hc0 := hB2.cell 0
  have hc1 := hB2.cell 1
  simp only [List.getElem?_toArray, List.getElem?_cons_zero, List.getElem?_cons_succ] at hc0 hc1
  generalize hna : a.length = na at *
  generalize hnb : b.length = nb at *
  have hG := fun W => grow_nil (na + nb) W hl
  rw [Int.natCast_add] at hG
  replace hG := hide hG
  replace hna := hide hna
  replace hnb := hide hnb
  clear hr hs
  go_enter Tryz.func98, Tryz.ntmps98
  go_wp2_with fail
  go_loopw [3, 11] (fun sz k wr => ((k = .int .i64 0 ∧ sz = .int .i64 0) ∨ (k = .int .i64 1 ∧ sz = .int .i64 na) ∨ (k = .int .i64 2 ∧ sz = .int .i64 (na + nb))) ∧ wr = w) (fun _ k _ => 2 - (intOf k).toNat)
  case atStart => exact ⟨.inl ⟨rfl, rfl⟩, rfl⟩
  case round =>
    obtain ⟨hrel, rfl⟩ := hrel
    rcases hrel with ⟨rfl, rfl⟩ | ⟨rfl, rfl⟩ | ⟨rfl, rfl⟩
    · go_wp2_with fail
      go_roundw
      case rel => exact ⟨.inr (.inl ⟨by go_num, by go_num⟩), trivial⟩
      case measure => simp [intOf]
    · go_wp2_with fail
      go_roundw
      case rel => exact ⟨.inr (.inr ⟨by go_num, by go_num⟩), trivial⟩
      case measure => simp [intOf]
    · go_wp2_with fail
      refine (hG.out _).mono ?_
      rintro e w1 ⟨v1, rfl, how1, hb1⟩
      have hlt1 : g < w1.heap.size := Nat.lt_of_lt_of_le hg hb1.size
      go_wp2_with fail
      go_loopw [6, 27] (fun out k w2 => ∃ (m : Nat) (l : List Nd), ((k = .int .i64 0 ∧ m = 0 ∧ l = []) ∨ (k = .int .i64 1 ∧ m = na ∧ l = a) ∨ (k = .int .i64 2 ∧ m = na + nb ∧ l = a ++ b)) ∧ w2.ownsRow wr.heap.size 67 2 out m (ndv l) ∧ Below wr.heap.size wr w2) (fun _ k _ => 2 - (intOf k).toNat)
      case atStart => exact ⟨0, [], .inl ⟨rfl, rfl, rfl⟩, how1, hb1⟩
      case round =>
        clear how1 hb1 hlt1
        obtain ⟨m, l, hrel, how, hbel⟩ := hrel
        obtain ⟨wo, rfl⟩ : ∃ wo : World, wo = wr := ⟨_, rfl⟩
        have k0 := (hbel.cell (p := ⟨g, 0, none⟩) hg).trans hc0
        have k1 := (hbel.cell (p := ⟨g, 1, none⟩) hg).trans hc1
        have hgo : g < wo.heap.size := Nat.lt_of_lt_of_le hg hbel.size
        rcases hrel with ⟨rfl, rfl, rfl⟩ | ⟨rfl, rfl, rfl⟩ | ⟨rfl, rfl, rfl⟩
        · go_wp2_with (at_builtin; refine wpList_app elNode rfl (.tmp 31) (.tmp 32) rfl wr.heap.size _ _ _ rfl how A na ca (ndc a) rfl (hrH.out.of_below (Nat.le_refl _) hbel) (fun i _ => hoa.out i) (by omega) hbel.size hA ?_; intro v2 w2 how2 hb2 hgr2 hat2)
          go_roundw
          case rel =>
            refine ⟨na, a, .inr (.inl ⟨by go_num, rfl, rfl⟩), ?_, hbel.trans hb2⟩
            rw [hra.out, Nat.zero_add] at how2
            exact how2
          case measure => simp [intOf]
        · go_wp2_with (at_builtin; refine wpList_app elNode rfl (.tmp 31) (.tmp 32) rfl wr.heap.size _ _ _ rfl how B nb cb (ndc b) rfl (hsH.out.of_below (Nat.le_refl _) hbel) (fun i _ => hob.out i) (by omega) hbel.size hB ?_; intro v2 w2 how2 hb2 hgr2 hat2)
          go_roundw
          case rel =>
            refine ⟨m + nb, l ++ b, .inr (.inr ⟨by go_num, rfl, rfl⟩), ?_, hbel.trans hb2⟩
            rw [hrb.out, ← hab.out] at how2
            exact how2
          case measure => simp [intOf]
        · go_wp2_with fail
          go_ret
          exact ⟨_, rfl, own_nds (by rw [hlen.out]; exact how), hbel⟩

theorem roll_join (A B : Option Addr) (ca cb : Nat) (a b : List Nd) (w : World) (hr : Rd w A a.length 2 (ndc a)) (hs : Rd w B b.length 2 (ndc b)) (hA : A = none → a.length = 0) (hB : B = none → b.length = 0) (hl : a.length + b.length ≤ 1000000) (hwf : NdWf (a ++ b)) :
    Calls Tryz.prog 55 #[.slice A a.length ca, .slice B b.length cb] w fun e w' => ∃ v, e = .returned (.tuple #[v, .bool (joinF a b).2]) ∧ Nds w' v (joinF a b).1 ∧ Below w.heap.size w w' := by
  unfold joinF
  have hF : ∀ (W : World) (v : Value) (h : Nds W v (a ++ b)), Calls Tryz.prog 97 #[v] W fun e w' => ∃ v, e = .returned (.tuple #[v, .bool (foldF (a ++ b)).2]) ∧ Nds w' v (foldF (a ++ b)).1 ∧ Below W.heap.size W w' := by
    intro W v h
    obtain ⟨A2, c2, rfl, hA2, hc2, hm2, hr2⟩ := h
    exact roll_fold A2 c2 (a ++ b) W hr2 hA2 hc2 hm2 (by simpa using hl) hwf
  have hC := concat_c w.heap.size A B ca cb a b _ (Blk.made w 64 #[.slice A a.length ca, .slice B b.length cb]) (hr.alloc _) (hs.alloc _) hA hB hl
  replace hF := hide hF
  replace hC := hide hC
  generalize foldF (a ++ b) = G at *
  clear hr hs hA hB hl hwf
  generalize a.length = na at *
  generalize b.length = nb at *
  go_enter Tryz.func55, Tryz.ntmps55
  go_wp2_with fail
  refine hC.out.mono ?_
  rintro e w1 ⟨v1, rfl, hv1, hb1⟩
  go_wp2_with fail
  refine (hF.out _ _ hv1).mono ?_
  rintro e w2 ⟨v2, rfl, hv2, hb2⟩
  go_wp2_with fail
  go_ret2
  exact ⟨v2, rfl, hv2, bthen (bthen (balloc0 _ _) hb1) hb2⟩
end Go.Proofs.YteebghoijaaakaaGreat
/- Layer 29: a letter read from bytes, by definition. By the prover of this repo. -/
namespace Go.Proofs.YteebghoijaaakaaGreat
open Go.RowKit
open VaryM SealM

abbrev noLet : Let := ⟨0, 0, 0, ⟨#[]⟩⟩
/-- May number i of a letter be v, the second one being b? -/
def badR (i : Nat) (v b : Int) : Bool := (decide (i = 1) && !decide (0 ≤ v ∧ v < 48)) || (decide (i = 2) && (!decide (v < 281474976710656) || !hasF v b))
/-- The rest of a letter: k numbers are still to come. -/
def refT : Nat → Int → Int → Int → Int → ByteArray → Let × Int
  | 0, a, b, d, n, t => if (t.size : Int) < n then (noLet, 9) else if n < (t.size : Int) then (noLet, 11) else (⟨a, b, d, t⟩, 0)
  | k + 1, a, b, d, n, t =>
    let g := get t.data.toList
    if g.2.2 ≠ 0 then (noLet, (g.2.2 : Int))
    else if badR (3 - k) g.1 b = true then (noLet, 10)
    else if 3 - k = 3 ∧ 1048576 < (g.1 : Int) then (noLet, 13)
    else refT k (if 3 - k = 0 then g.1 else a) (if 3 - k = 1 then g.1 else b) (if 3 - k = 2 then g.1 else d) (if 3 - k = 3 then g.1 else n) (t.extract g.2.1 t.size)
def decR (all : ByteArray) : Let × Int :=
  let o := openRes all
  if o.2 ≠ 0 then (noLet, o.2)
  else if o.1.size < 4 then (noLet, 9)
  else if o.1.extract 0 4 ≠ ⟨#[68, 87, 76, 1]⟩ then (noLet, 10)
  else refT 4 0 0 0 0 (o.1.extract 4 o.1.size)

theorem refT_err {k : Nat} {a b d n : Int} {t : ByteArray} {v sz e : Nat} (hg : get t.data.toList = (v, sz, e)) (he : e ≠ 0) : refT (k + 1) a b d n t = (noLet, (e : Int)) := by
  simp only [refT]; rw [hg, if_pos he]
theorem refT_bad {k : Nat} {a b d n : Int} {t : ByteArray} {v sz : Nat} (hg : get t.data.toList = (v, sz, 0)) (hb : badR (3 - k) v b = true) : refT (k + 1) a b d n t = (noLet, 10) := by
  simp only [refT]; rw [hg]; simp only [ne_eq, not_true_eq_false, if_false]; rw [if_pos hb]
theorem refT_cap {a b d n : Int} {t : ByteArray} {v sz : Nat} (hg : get t.data.toList = (v, sz, 0)) (hb : 1048576 < (v : Int)) : refT 1 a b d n t = (noLet, 13) := by
  simp only [refT]; rw [hg]; simp only [ne_eq, not_true_eq_false, if_false]; rw [if_neg (by simp [badR]), if_pos (by simpa using hb)]
theorem refT_on {k : Nat} {a b d n : Int} {t : ByteArray} {v sz : Nat} (hg : get t.data.toList = (v, sz, 0)) (hb : ¬ badR (3 - k) v b = true) (hc : ¬ (3 - k = 3 ∧ 1048576 < (v : Int))) :
    refT (k + 1) a b d n t = refT k (if 3 - k = 0 then v else a) (if 3 - k = 1 then v else b) (if 3 - k = 2 then v else d) (if 3 - k = 3 then v else n) (t.extract sz t.size) := by
  conv => lhs; simp only [refT]
  rw [hg]; simp only [ne_eq, not_true_eq_false, if_false]; rw [if_neg hb, if_neg hc]

end Go.Proofs.YteebghoijaaakaaGreat

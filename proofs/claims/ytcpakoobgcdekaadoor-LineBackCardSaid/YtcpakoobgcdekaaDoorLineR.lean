/- Lines of commands: line.Print walked. By the prover of this repo. -/
import Derived.Test.YtcpakoobgcdekaaDoorLineQ
import Derived.Test.YtcpakoobgcdekaaDoorShelf
namespace Go.Proofs.YtcpakoobgcdekaaDoor
open Go.RowKit

/-- A text, if it is one. -/
def opt (s : ByteArray) : List ByteArray := if s = ByteArray.empty then [] else [s]
/-- What a command's line is made of. -/
def piecesF (c : Cmd) : List ByteArray := (wordB c.1.toNat :: (opt c.2.1 ++ opt c.2.2.1)) ++ c.2.2.2.map digS
def textL (c : Cmd) : ByteArray := ⟨(Lib.join ((piecesF c).map (·.data.toList)) [32]).toArray⟩
/-- A command's line; what is wrong. -/
def printF (c : Cmd) : ByteArray × Int := if cmdR c.1 c.2.1 c.2.2.1 c.2.2.2 = true then (if 4096 < (textL c).size then (⟨#[]⟩, 21) else (textL c, 0)) else (⟨#[]⟩, 2)
theorem opt_nil : opt ⟨#[]⟩ = [] := by decide
theorem opt_one {s : ByteArray} (h : 0 < s.size) : opt s = [s] := by
  unfold opt
  rw [if_neg (fun e => by subst e; simp at h)]
theorem opt_len (s : ByteArray) : (opt s).length ≤ 1 := by unfold opt; split <;> simp
theorem cmdR_op {o : Int} {x y : ByteArray} {l : List Int} (h : cmdR o x y l = true) : 0 ≤ o ∧ o < 19 ∧ l.length ≤ 64 ∧ x.size ≤ 12 ∧ y.size ≤ 12 ∧ ∀ n ∈ l, 0 ≤ n := by
  unfold cmdR at h
  simp only [Bool.and_eq_true, decide_eq_true_eq] at h
  obtain ⟨⟨h0, h1⟩, hx, hy, hr, hp⟩ := h
  have hnm : ∀ (s : ByteArray) (b : Bool), nameOk s b = true → s.size ≤ 12 := fun s b hs => by
    unfold nameOk at hs
    split at hs
    · unfold nameF at hs
      rw [Bool.and_eq_true, decide_eq_true_eq, len_size] at hs
      omega
    · rw [of_decide_eq_true hs]; simp
  unfold rangeOk at hr
  have hr := of_decide_eq_true hr
  have h64 := (need_le o).2.2
  unfold posOk at hp
  rw [List.all_eq_true] at hp
  exact ⟨h0, h1, by omega, hnm _ _ hx, hnm _ _ hy, fun n hn => of_decide_eq_true (hp n hn)⟩
theorem digF_len : ∀ (k n : Nat), n < 10 ^ (k + 1) → (digF n).length ≤ k + 1
  | 0, n, h => by rw [digF_small (by simpa using h)]; simp
  | k + 1, n, h => by
    by_cases h1 : n < 10
    · rw [digF_small h1]; simp
    · rw [digF_more h1, List.length_append]
      have := digF_len k (n / 10) (pow10 (k + 1) n h)
      simp; omega
theorem digS_len {n : Int} (h : n ≤ 9223372036854775807) : (digS n).size ≤ 20 := by
  unfold digS
  split
  · show (⟨#[]⟩ : ByteArray).size ≤ 20; decide
  · have := digF_len 19 n.toNat (by show n.toNat < 100000000000000000000; omega)
    show (digF n.toNat).toArray.size ≤ 20
    simpa using this
theorem digS_pos {n : Int} (h : 0 ≤ n) : 0 < (digS n).size := by
  unfold digS
  rw [if_neg (by omega)]
  show 0 < (digF n.toNat).toArray.size
  have := List.length_pos_iff.2 (digF_ne n.toNat)
  simpa using this
theorem join_le (b : Nat) : ∀ R : List ByteArray, (∀ r ∈ R, r.size ≤ b) → (Lib.join (R.map (·.data.toList)) [32]).length ≤ (b + 1) * R.length
  | [], _ => by rw [List.map_nil, Lib.join_nil]; simp
  | r :: R, h => by
    rw [List.map_cons, Lib.join_cons, List.length_append]
    have h1 := h r (by simp)
    have h2 : (Lib.joinTail [32] (R.map (·.data.toList))).length ≤ (b + 1) * R.length := by
      have hR : ∀ x ∈ R, x.size ≤ b := fun x hx => h x (by simp [hx])
      clear h h1
      unfold Lib.joinTail
      induction R with
      | nil => simp
      | cons x R ih =>
        have hx := hR x (by simp)
        have := ih (fun y hy => hR y (by simp [hy]))
        have e : x.data.toList.length = x.size := by simp
        simp only [List.map_cons, List.flatten_cons, List.length_append, List.length_cons, List.length_nil, Nat.mul_add, Nat.mul_one] at *
        omega
    have e : r.data.toList.length = r.size := by simp
    simp only [List.length_cons, Nat.mul_add, Nat.mul_one]
    omega
theorem wordB_size : ∀ j : Fin 19, (wordB j.1).size ≤ 7 := by decide +kernel
theorem own_strd {w : World} {base k c : Nat} {A : Option Addr} {l : List ByteArray} (h : w.ownsRow base 9 1 (.slice A k c) k (sv l)) (hk : l.length = k) : Rd w A k 1 (sc l) := by
  obtain ⟨A', c', e, _, _, _, hr⟩ := own_sts hk h
  injection e with e1 e2 e3
  subst e1
  rw [hk] at hr
  exact hr
set_option maxRecDepth 100000 in
set_option maxHeartbeats 4000000 in
theorem line_print (op : Int) (nm ot : ByteArray) (l : List Int) (v : Value) (w : World) (hW : Wz w) (hv : Its w v l) (hl : l.length ≤ 1000000) (hlb : ∀ n ∈ l, n ≤ 9223372036854775807) :
    Calls Tryd.prog 45 #[cmdV op nm ot v] w fun e w' => e = .returned (.tuple #[.string (printF (op, nm, ot, l)).1, .int .i64 (printF (op, nm, ot, l)).2]) ∧ Below w.heap.size w w' := by
  obtain ⟨q, hq⟩ : ∃ q, Hid (printF (op, nm, ot, l) = q) := ⟨_, rfl⟩
  rw [hq.out]
  unfold printF at hq
  simp only [] at hq
  have hB0 : Blk (w.alloc (.cells #[.int .i64 op, .string nm, .string ot, v] 54)) w.heap.size 54 #[.int .i64 op, .string nm, .string ot, v] := Blk.made _ _ _
  have hb0 := hide (balloc0 w (.cells #[.int .i64 op, .string nm, .string ot, v] 54))
  have hR := hide (line_right op nm ot l v (w.alloc (.cells #[.int .i64 op, .string nm, .string ot, v] 54)) (hv.kept (balloc0 _ _)) (by omega))
  have hv0 := hv.kept (balloc0 w (.cells #[.int .i64 op, .string nm, .string ot, v] 54))
  have hW0 := hW.kept (balloc0 w (.cells #[.int .i64 op, .string nm, .string ot, v] 54))
  obtain ⟨A, c, rfl, _, _, _, hrA⟩ := hv
  replace hrA := hide hrA
  replace hB0 := hide hB0
  replace hv0 := hide hv0
  replace hW0 := hide hW0
  cases hcr : cmdR op nm ot l
  · rw [hcr] at hq hR
    have hres : Hid ((⟨#[]⟩, 2) = q) := by show _ = _; rw [← hq.out]; rfl
    clear hq hcr hW
    go_enter Tryd.func45, Tryd.ntmps45
    go_wp2_with fail
    refine hR.out.mono ?_
    rintro e w1 ⟨rfl, hb1⟩
    have k1 := hide (bthen hb0.out hb1)
    clear hb1
    go_wp2_with fail
    go_ret2
    exact ⟨by rw [← hres.out]; rfl, k1.out⟩
  · have hcp := cmdR_op hcr
    rw [hcr] at hR hq
    simp only [if_true] at hq
    obtain ⟨ho0, ho9, hl64, hx12, hy12, hpos⟩ := hcp
    obtain ⟨o, rfl⟩ := Int.eq_ofNat_of_zero_le ho0
    have hwf : wordF ((o : Nat) : Int) = wordB o := wordF_in (by omega)
    have hpc : Hid (piecesF ((o : Int), nm, ot, l) = (wordB o :: (opt nm ++ opt ot)) ++ l.map digS) := rfl
    have hjl : (Lib.join ((piecesF ((o : Int), nm, ot, l)).map (·.data.toList)) [32]).length ≤ 21 * (piecesF ((o : Int), nm, ot, l)).length := join_le 20 _ (fun r hr => by
      rw [hpc.out] at hr
      rcases List.mem_append.1 hr with h | h
      · rcases List.mem_cons.1 h with rfl | h
        · have := wordB_size ⟨o, by omega⟩; simp only [] at this; omega
        · rcases List.mem_append.1 h with h | h
          · unfold opt at h; split at h
            · cases h
            · simp at h; subst h; omega
          · unfold opt at h; split at h
            · cases h
            · simp at h; subst h; omega
      · obtain ⟨n, hn, rfl⟩ := List.mem_map.1 h
        exact digS_len (hlb n hn))
    have hpl : (piecesF ((o : Int), nm, ot, l)).length ≤ 67 := by
      rw [hpc.out]
      have h1 := opt_len nm
      have h2 := opt_len ot
      simp only [List.length_append, List.length_cons, List.length_map]
      omega
    clear hcr hW
    go_enter Tryd.func45, Tryd.ntmps45
    go_wp2_with fail
    refine hR.out.mono ?_
    rintro e w1 ⟨rfl, hb1⟩
    have hw1 := hide (hW0.out.kept hb1)
    have hv1 := hide (hv0.out.kept hb1)
    have hB1 := hB0.out.kept hb1
    have a0 := hB1.cell 0
    have a1 := hB1.cell 1
    have a2 := hB1.cell 2
    have a3 := hB1.cell 3
    simp only [List.getElem?_toArray, List.getElem?_cons_zero, List.getElem?_cons_succ] at a0 a1 a2 a3
    have l1 := hB1.lt
    have k1 := hide (bthen hb0.out hb1)
    have hrd := hide (hrA.out.of_below (Nat.le_refl _) k1.out)
    replace hB1 := hide hB1
    have hWd := hide (line_word (o : Int) w1 hw1.out)
    rw [hwf] at hWd
    clear hb1 hB0 hb0 hR hv0 hW0
    have hg0 : Boxed ((w1.alloc (.cells #[.string (wordB o)] 9)).alloc (.cells #[.slice (some ⟨w1.heap.size, 0, none⟩) 1 1] 86)) (w1.heap.size + 1) 86 (.slice (some ⟨w1.heap.size, 0, none⟩) 1 1) := by
      have h := Boxed.new (w1.alloc (.cells #[.string (wordB o)] 9)) 86 (.slice (some ⟨w1.heap.size, 0, none⟩) 1 1)
      simpa using h
    have hr0 : (w1.alloc (.cells #[.string (wordB o)] 9)).ownsRow w1.heap.size 9 1 (.slice (some ⟨w1.heap.size, 0, none⟩) 1 1) 1 (sv [wordB o]) := World.ownsRow_lit w1 #[.string (wordB o)] 1 (Nat.le_refl _) (by unfold maxLen; omega) rfl
    have hr1 := hide (hr0.alloc (.cells #[.slice (some ⟨w1.heap.size, 0, none⟩) 1 1] 86))
    have hbk := hide (balloc (balloc0 w1 (.cells #[.string (wordB o)] 9)) (.cells #[.slice (some ⟨w1.heap.size, 0, none⟩) 1 1] 86))
    replace hg0 := hide hg0
    clear hr0
    go_upto_region 5 with (go_at_call 49; refine hWd.out.mono ?_; rintro e w2 ⟨rfl, rfl⟩)
    go_cut [5] (fun f wx => f = .func (.func 72) #[] #[.pointer (some ⟨w1.heap.size + 1, 0, none⟩)] ∧ ∃ v, Boxed wx (w1.heap.size + 1) 86 v ∧ wx.ownsRow w1.heap.size 9 1 v (wordB o :: opt nm).length (sv (wordB o :: opt nm)) ∧ Below w1.heap.size w1 wx)
    case first =>
      rcases emp_iff nm with rfl | hnm
      · have hA := hide (print_skip (w1.heap.size + 1))
        go_wp2_with (go_at_call 72; refine (hA.out _).mono ?_; rintro e w3 ⟨rfl, rfl⟩)
        go_meet
        exact ⟨rfl, _, hg0.out, hr1.out, hbk.out⟩
      · have hA := hide (print_add nm hnm (w1.heap.size + 1) w1.heap.size 1 _ [wordB o] _ rfl (by omega) hg0.out hr1.out (by omega))
        go_wp2_with (go_at_call 72; refine hA.out.mono ?_; rintro e w3 ⟨rfl, ⟨v', q1, q2⟩, q3⟩; have q1 := hide q1; have q2 := hide q2; have q3 := hide q3)
        go_meet
        exact ⟨rfl, _, q1.out, by rw [opt_one hnm]; exact q2.out, hbk.out.trans q3.out⟩
    case rest =>
      obtain ⟨rfl, v1, hg1, hr2, hbk1⟩ := hcut
      have b2 := (hbk1.cell (p := ⟨w.heap.size, 2, none⟩) l1).trans a2
      have b3 := (hbk1.cell (p := ⟨w.heap.size, 3, none⟩) l1).trans a3
      replace hg1 := hide hg1
      replace hr2 := hide hr2
      replace hbk1 := hide hbk1
      have hl1 := hide (opt_len nm)
      clear hg0 hr1 hbk hWd a0 a1
      go_upto_region 6 with fail
      go_cut [5] (fun f wx => f = .func (.func 72) #[] #[.pointer (some ⟨w1.heap.size + 1, 0, none⟩)] ∧ ∃ v, Boxed wx (w1.heap.size + 1) 86 v ∧ wx.ownsRow w1.heap.size 9 1 v (wordB o :: (opt nm ++ opt ot)).length (sv (wordB o :: (opt nm ++ opt ot))) ∧ Below w1.heap.size w1 wx)
      case first =>
        rcases emp_iff ot with rfl | hot
        · have hA := hide (print_skip (w1.heap.size + 1))
          go_wp2_with (go_at_call 72; refine (hA.out _).mono ?_; rintro e w3 ⟨rfl, rfl⟩)
          go_meet
          exact ⟨rfl, _, hg1.out, by rw [opt_nil, List.append_nil]; exact hr2.out, hbk1.out⟩
        · have hA := hide (print_add ot hot (w1.heap.size + 1) w1.heap.size _ _ (wordB o :: opt nm) _ rfl (by have := hl1.out; simp; omega) hg1.out hr2.out (by omega))
          go_wp2_with (go_at_call 72; refine hA.out.mono ?_; rintro e w3 ⟨rfl, ⟨v', q1, q2⟩, q3⟩; have q1 := hide q1; have q2 := hide q2; have q3 := hide q3)
          go_meet
          exact ⟨rfl, _, q1.out, by rw [opt_one hot]; have h := q2.out; simpa using h, hbk1.out.trans q3.out⟩
      case rest =>
        obtain ⟨rfl, v2, hg2, hr3, hbk2⟩ := hcut
        have b3 := (hbk2.cell (p := ⟨w.heap.size, 3, none⟩) l1).trans a3
        obtain ⟨P, hP⟩ : ∃ P, Hid (wordB o :: (opt nm ++ opt ot) = P) := ⟨_, rfl⟩
        rw [hP.out] at hr3 hpc
        have hPl : P.length ≤ 3 := by
          rw [← hP.out]
          have h1 := hl1.out
          have h2 := opt_len ot
          simp only [List.length_append, List.length_cons]
          omega
        obtain ⟨n, hn⟩ : ∃ n, Hid (l.length = n) := ⟨_, rfl⟩
        rw [hn.out] at b3 hl64
        have hlb' := hide hlb
        have hpos' := hide hpos
        replace hg2 := hide hg2
        replace hr3 := hide hr3
        replace hbk2 := hide hbk2
        clear hg1 hr2 hbk1 a2 a3 hlb hpos
        go_wp2_with fail
        go_loopw [28] (fun x wr => ∃ (k : Nat) (v : Value), x = .int .i64 k ∧ k ≤ n ∧ Boxed wr (w1.heap.size + 1) 86 v ∧ wr.ownsRow w1.heap.size 9 1 v (P ++ (l.take k).map digS).length (sv (P ++ (l.take k).map digS)) ∧ Below w1.heap.size w1 wr) (fun x _ => n - (intOf x).toNat)
        case atStart => exact ⟨0, v2, rfl, Nat.zero_le _, hg2.out, by rw [List.take_zero, List.map_nil, List.append_nil]; exact hr3.out, hbk2.out⟩
        case round =>
          clear hg2 hr3 hbk2 b3
          obtain ⟨k, va, rfl, hk, hg, how, hbel⟩ := hrel
          by_cases hlt : k < n
          · have hkl : k < l.length := by rw [hn.out]; exact hlt
            obtain ⟨b, off, rfl, hb, hc⟩ := it_at (hrd.out.of_below (Nat.le_refl _) hbel) hkl
            have htk : Hid ((l.take (k + 1)).map digS = (l.take k).map digS ++ [digS l[k]]) := by show _ = _; rw [List.take_succ_eq_append_getElem hkl, List.map_append]; rfl
            have hxp := digS_pos (hpos'.out l[k] (List.getElem_mem hkl))
            have hxm := hlb'.out l[k] (List.getElem_mem hkl)
            generalize l[k] = x at *
            have hD := hide (fun W => sheet_digits x W hxm)
            generalize digS x = dx at *
            have hlen : (P ++ (l.take k).map digS).length ≤ 1000 := by
              simp only [List.length_append, List.length_map, List.length_take]
              omega
            have hA := hide (fun (W : World) (v : Value) (h1 : Boxed W (w1.heap.size + 1) 86 v) (h2 : W.ownsRow w1.heap.size 9 1 v (P ++ (l.take k).map digS).length (sv (P ++ (l.take k).map digS))) => print_add dx hxp (w1.heap.size + 1) w1.heap.size _ v (P ++ (l.take k).map digS) W rfl (by omega) h1 h2 (by omega))
            obtain ⟨Q, hQ⟩ : ∃ Q, Hid (P ++ (l.take k).map digS = Q) := ⟨_, rfl⟩
            rw [hQ.out] at hA how
            have hQ2 : Hid (Q ++ [dx] = P ++ (l.take (k + 1)).map digS) := by show _ = _; rw [htk.out, ← hQ.out, List.append_assoc]
            have hz := hbel.size
            replace hg := hide hg
            replace how := hide how
            replace hbel := hide hbel
            clear hlen hxp htk
            go_wp2_with (first
              | (go_at_call 73; refine (hD.out _).mono ?_; rintro e w3 ⟨rfl, hb3⟩; have q1 : Boxed w3 (w1.heap.size + 1) 86 va := (hb3.block _ hg.out.lt).trans hg.out; have q2 := own_kept1 how.out hb3; have hA3 := hide (hA.out w3 va q1 q2); have hb3 := hide hb3; clear q1 q2)
              | (go_at_call 72; refine hA3.out.mono ?_; rintro e w4 ⟨rfl, ⟨v', q1, q2⟩, q3⟩; have q1 := hide q1; have q2 := hide q2; have q3 := hide q3))
            go_roundw
            case rel => exact ⟨k + 1, v', by go_num, by omega, q1.out, by rw [← hQ2.out, List.length_append]; exact q2.out, (hbel.out.trans (hb3.out.mono hz)).trans q3.out⟩
            case measure => simp [intOf] <;> omega
          · obtain rfl : k = n := by omega
            have hfull : P ++ (l.take k).map digS = piecesF ((o : Int), nm, ot, l) := by rw [List.take_of_length_le (by rw [hn.out]; exact Nat.le_refl _), hpc.out]
            rw [hfull] at how
            have hR0 : 0 < (piecesF ((o : Int), nm, ot, l)).length := by rw [hpc.out, ← hP.out]; simp
            have ht : Hid (textL ((o : Int), nm, ot, l) = ⟨(Lib.join ((piecesF ((o : Int), nm, ot, l)).map (·.data.toList)) [32]).toArray⟩) := rfl
            generalize piecesF ((o : Int), nm, ot, l) = R at *
            obtain ⟨A2, c2, rfl, _, hc2, _⟩ := own_form how
            obtain ⟨b2', o2, rfl, hbk, hcell⟩ := own_strd how rfl hR0
            have hgc := hg.cell
            have hJ := hide (Tryd.strings_Join b2' o2 c2 R ⟨#[32]⟩ wr (fun j x hj => by
              have hjl := (List.getElem?_eq_some_iff.1 hj).1
              rw [hcell j (by omega)]
              unfold sc
              rw [List.getD_eq_getElem?_getD, hj]; rfl) hbk (by omega) hc2 (by show (Lib.join (R.map (·.data.toList)) [32]).length ≤ _; omega))
            have hsz : Hid ((⟨(Lib.join (R.map (·.data.toList)) [32]).toArray⟩ : ByteArray).size ≤ 1407) := by show Array.size _ ≤ _; simp; omega
            rw [ht.out] at hq
            rw [show ((⟨#[32]⟩ : ByteArray).data.toList) = [32] from rfl] at hJ
            generalize (⟨(Lib.join (R.map (·.data.toList)) [32]).toArray⟩ : ByteArray) = t at *
            obtain ⟨nr, hnr⟩ : ∃ nr, Hid (R.length = nr) := ⟨_, rfl⟩
            rw [hnr.out] at hJ hgc hc2
            have hbel := hide hbel
            have hres : Hid ((t, 0) = q) := by show _ = _; rw [← hq.out, if_neg (by have := hsz.out; omega)]
            have h4 : ¬ (4096 : Int) < t.size := by have := hsz.out; omega
            clear how hg hcell ht hq hfull
            go_wp2_with (go_at_call 74; refine hJ.out.mono ?_; rintro e w5 ⟨rfl, hb5⟩; have hb5 := hide hb5)
            go_ret2
            exact ⟨by rw [← hres.out]; rfl, k1.out.trans ((hbel.out.trans (hb5.out.mono hbel.out.size)).mono (by omega))⟩
end Go.Proofs.YtcpakoobgcdekaaDoor

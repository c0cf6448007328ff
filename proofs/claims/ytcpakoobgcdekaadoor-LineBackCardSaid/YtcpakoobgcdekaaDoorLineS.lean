/- Lines of commands: the reference's Print walked. By the prover of this repo. -/
import Derived.Test.YtcpakoobgcdekaaDoorLineR
namespace Go.Proofs.YtcpakoobgcdekaaDoor
open Go.RowKit

/-- A text, and each of more behind a blank. -/
def addS (s : ByteArray) (R : List ByteArray) : ByteArray := R.foldl (fun a r => (a ++ ⟨#[32]⟩) ++ r) s
theorem addS_nil (s : ByteArray) : addS s [] = s := rfl
theorem addS_snoc (s : ByteArray) (R : List ByteArray) (r : ByteArray) : addS s (R ++ [r]) = (addS s R ++ ⟨#[32]⟩) ++ r := by unfold addS; rw [List.foldl_append]; rfl
theorem addS_app (s : ByteArray) (R Q : List ByteArray) : addS s (R ++ Q) = addS (addS s R) Q := by unfold addS; rw [List.foldl_append]
theorem addS_list : ∀ (R : List ByteArray) (s : ByteArray), (addS s R).data.toList = s.data.toList ++ Lib.joinTail [32] (R.map (·.data.toList))
  | [], s => by rw [addS_nil]; simp [Lib.joinTail]
  | r :: R, s => by
    have h := addS_list R ((s ++ ⟨#[32]⟩) ++ r)
    show (addS ((s ++ ⟨#[32]⟩) ++ r) R).data.toList = _
    rw [h]
    simp [Lib.joinTail, ByteArray.data_append]
theorem addS_join (s : ByteArray) (R : List ByteArray) : addS s R = ⟨(Lib.join ((s :: R).map (·.data.toList)) [32]).toArray⟩ := by
  apply str_ext
  rw [addS_list, List.map_cons, Lib.join_cons]
theorem addS_size (b : Nat) (s : ByteArray) (R : List ByteArray) (h : ∀ r ∈ R, r.size ≤ b) : (addS s R).size ≤ s.size + (b + 1) * R.length := by
  induction R generalizing s with
  | nil => simp [addS]
  | cons r R ih =>
    have h1 := ih ((s ++ ⟨#[32]⟩) ++ r) (fun x hx => h x (by simp [hx]))
    have h2 := h r (by simp)
    show (addS ((s ++ ⟨#[32]⟩) ++ r) R).size ≤ _
    rw [ByteArray.size_append, ByteArray.size_append] at h1
    have e : (⟨#[32]⟩ : ByteArray).size = 1 := rfl
    rw [e] at h1
    simp only [List.length_cons, Nat.mul_add, Nat.mul_one]
    omega
theorem opt_ok {s : ByteArray} {b : Bool} (h : nameOk s b = true) : opt s = if b = true then [s] else [] := by
  unfold nameOk at h
  cases b
  · rw [if_neg (by decide)] at h ⊢
    rw [of_decide_eq_true h]
    rfl
  · rw [if_pos rfl] at h ⊢
    refine opt_one ?_
    unfold nameF at h
    rw [Bool.and_eq_true, decide_eq_true_eq, len_size] at h
    omega
set_option maxRecDepth 100000 in
set_option maxHeartbeats 4000000 in
theorem ref35_print (op : Int) (nm ot : ByteArray) (l : List Int) (v : Value) (w : World) (hv : Its w v l) (hl : l.length ≤ 1000000) (hlb : ∀ n ∈ l, n ≤ 9223372036854775807) :
    Calls Tryd.prog 46 #[cmdV op nm ot v] w fun e w' => e = .returned (.tuple #[.string (printF (op, nm, ot, l)).1, .int .i64 (printF (op, nm, ot, l)).2]) ∧ Below w.heap.size w w' := by
  obtain ⟨q, hq⟩ : ∃ q, Hid (printF (op, nm, ot, l) = q) := ⟨_, rfl⟩
  rw [hq.out]
  unfold printF at hq
  simp only [] at hq
  have hB0 : Blk (w.alloc (.cells #[.int .i64 op, .string nm, .string ot, v] 57)) w.heap.size 57 #[.int .i64 op, .string nm, .string ot, v] := Blk.made _ _ _
  have hb0 := hide (balloc0 w (.cells #[.int .i64 op, .string nm, .string ot, v] 57))
  have hR := hide (ref35_right op nm ot l v (w.alloc (.cells #[.int .i64 op, .string nm, .string ot, v] 57)) (hv.kept (balloc0 _ _)) (by omega))
  obtain ⟨A, c, rfl, _, _, _, hrA⟩ := hv
  replace hrA := hide hrA
  replace hB0 := hide hB0
  cases hcr : cmdR op nm ot l
  · rw [hcr] at hq hR
    have hres : Hid ((⟨#[]⟩, 2) = q) := by show _ = _; rw [← hq.out]; rfl
    clear hq hcr
    go_enter Tryd.func46, Tryd.ntmps46
    go_wp2_with fail
    refine hR.out.mono ?_
    rintro e w1 ⟨rfl, hb1⟩
    have k1 := hide (bthen hb0.out hb1)
    clear hb1
    go_wp2_with fail
    go_ret2
    exact ⟨by rw [← hres.out]; rfl, k1.out⟩
  · have hcp := cmdR_op hcr
    rw [hcr] at hR hq
    simp only [if_true] at hq
    unfold cmdR at hcr
    simp only [Bool.and_eq_true, decide_eq_true_eq] at hcr
    obtain ⟨_, hnx, hny, _, _⟩ := hcr
    obtain ⟨ho0, ho9, hl64, hx12, hy12, _⟩ := hcp
    obtain ⟨o, rfl⟩ := Int.eq_ofNat_of_zero_le ho0
    have hwf : wordF ((o : Nat) : Int) = wordB o := wordF_in (by omega)
    have ho1 := opt_ok hnx
    have ho2 := opt_ok hny
    have hws : (wordB o).size ≤ 7 := wordB_size ⟨o, by omega⟩
    have hN := hide (fun (W : World) => ref35_needs (o : Int) W ⟨by omega, by omega⟩)
    have hk2 := (need_le (o : Nat)).1
    obtain ⟨S0, hS0⟩ : ∃ S0, Hid (addS (wordB o) (opt nm ++ opt ot) = S0) := ⟨_, rfl⟩
    have hS0z : S0.size ≤ 100 := by
      rw [← hS0.out]
      have h := addS_size 12 (wordB o) (opt nm ++ opt ot) (fun r hr => by
        rcases List.mem_append.1 hr with h | h
        · unfold opt at h; split at h
          · cases h
          · simp at h; subst h; omega
        · unfold opt at h; split at h
          · cases h
          · simp at h; subst h; omega)
      have h1 := opt_len nm
      have h2 := opt_len ot
      rw [List.length_append] at h
      omega
    have htx : Hid (textL ((o : Int), nm, ot, l) = addS S0 (l.map digS)) := by
      show _ = _
      rw [← hS0.out, ← addS_app, addS_join]
      rfl
    rw [htx.out] at hq
    rw [ho1, ho2] at hS0
    generalize (needF ((o : Nat) : Int)).1 = k at *
    generalize (needF ((o : Nat) : Int)).2.1 = lo at *
    have hWd := hide (fun (W : World) => ref35_word (o : Int) W)
    rw [hwf] at hWd
    obtain ⟨n, hn⟩ : ∃ n, Hid (l.length = n) := ⟨_, rfl⟩
    rw [hn.out] at hR hB0 hb0 hl64
    rw [hn.out]
    have hlb' := hide hlb
    have hkc : k = 0 ∨ k = 1 ∨ k = 2 := by omega
    clear hnx hny ho1 ho2 hwf htx hlb hk2
    go_enter Tryd.func46, Tryd.ntmps46
    go_wp2_with fail
    refine hR.out.mono ?_
    rintro e w1 ⟨rfl, hb1⟩
    have hB1 := hB0.out.kept hb1
    have a0 := hB1.cell 0
    simp only [List.getElem?_toArray, List.getElem?_cons_zero] at a0
    have l1 := hB1.lt
    have k1 := hide (bthen hb0.out hb1)
    replace hB1 := hide hB1
    clear hb1 hB0 hb0 hR
    go_wp2_with fail
    refine (hWd.out _).mono ?_
    rintro e w2 ⟨rfl, hb2⟩
    have hB2 := hB1.out.kept hb2
    have a0 := hB2.cell 0
    simp only [List.getElem?_toArray, List.getElem?_cons_zero] at a0
    have l2 := hB2.lt
    have k2 := hide (bthen k1.out hb2)
    replace hB2 := hide hB2
    clear hb2 hB1 k1 l1 hWd
    go_wp2_with fail
    refine (hN.out _).mono ?_
    rintro e w3 ⟨rfl, hb3⟩
    have hB3 := hB2.out.kept hb3
    have a0 := hB3.cell 0
    have a1 := hB3.cell 1
    have a2 := hB3.cell 2
    have a3 := hB3.cell 3
    simp only [List.getElem?_toArray, List.getElem?_cons_zero, List.getElem?_cons_succ] at a0 a1 a2 a3
    have l3 := hB3.lt
    have k3 := hide (bthen k2.out hb3)
    have hrd := hide (hrA.out.of_below (Nat.le_refl _) k3.out)
    replace hB3 := hide hB3
    clear hb3 hB2 k2 l2 hN
    have c1 : (wordB o).size + (⟨#[32]⟩ : ByteArray).size ≤ 9223372036854775807 := by show _ + 1 ≤ _; omega
    have c2 : ((wordB o) ++ (⟨#[32]⟩ : ByteArray)).size + nm.size ≤ 9223372036854775807 := by rw [ByteArray.size_append]; show _ + 1 + _ ≤ _; omega
    have c3 : ((wordB o) ++ (⟨#[32]⟩ : ByteArray) ++ nm).size + (⟨#[32]⟩ : ByteArray).size ≤ 9223372036854775807 := by rw [ByteArray.size_append, ByteArray.size_append]; show _ + 1 + _ + 1 ≤ _; omega
    have c4 : ((wordB o) ++ (⟨#[32]⟩ : ByteArray) ++ nm ++ (⟨#[32]⟩ : ByteArray)).size + ot.size ≤ 9223372036854775807 := by rw [ByteArray.size_append, ByteArray.size_append, ByteArray.size_append]; show _ + 1 + _ + 1 + _ ≤ _; omega
    generalize wordB o = wb at *
    rcases hkc with rfl | rfl | rfl
    all_goals
      go_wp2_with fail
      go_loopw [4, 7] (fun sv x wr => ∃ k : Nat, x = .int .i64 k ∧ k ≤ n ∧ sv = .string (addS S0 ((l.take k).map digS)) ∧ Below w3.heap.size w3 wr) (fun _ x _ => n - (intOf x).toNat)
      case atStart => exact ⟨0, rfl, Nat.zero_le _, by rw [← hS0.out]; rfl, Below.refl _ _⟩
      case round =>
        clear c1 c2 c3 c4 a0 a1 a2
        obtain ⟨k, rfl, hk, rfl, hbel⟩ := hrel
        have b3 := (hbel.cell (p := ⟨w.heap.size, 3, none⟩) l3).trans a3
        have l4 : w.heap.size < wr.heap.size := Nat.lt_of_lt_of_le l3 hbel.size
        have hsz := addS_size 20 S0 ((l.take k).map digS) (fun r hr => by
          obtain ⟨x, hx, rfl⟩ := List.mem_map.1 hr
          exact digS_len (hlb'.out x (List.mem_of_mem_take hx)))
        have hszl : ((l.take k).map digS).length ≤ 64 := by rw [List.length_map, List.length_take]; omega
        by_cases hlt : k < n
        · have hkl : k < l.length := by rw [hn.out]; exact hlt
          obtain ⟨b, off, rfl, hb, hc⟩ := it_at (hrd.out.of_below (Nat.le_refl _) hbel) hkl
          have htk : Hid (addS S0 ((l.take (k + 1)).map digS) = (addS S0 ((l.take k).map digS) ++ ⟨#[32]⟩) ++ digS l[k]) := by show _ = _; rw [List.take_succ_eq_append_getElem hkl, List.map_append]; exact addS_snoc _ _ _
          have hxm := hlb'.out l[k] (List.getElem_mem hkl)
          generalize l[k] = x at *
          have hD := hide (fun W => ref25_digits x W hxm)
          have hdz := digS_len hxm
          generalize digS x = dx at *
          generalize addS S0 ((l.take k).map digS) = S at *
          have e1 : S.size + (⟨#[32]⟩ : ByteArray).size ≤ 9223372036854775807 := by show _ + 1 ≤ _; omega
          have e2 : (S ++ (⟨#[32]⟩ : ByteArray)).size + dx.size ≤ 9223372036854775807 := by rw [ByteArray.size_append]; show _ + 1 + _ ≤ _; omega
          have hz := hbel.size
          replace hbel := hide hbel
          clear hsz hszl
          go_wp2_with (go_at_call 75; refine (hD.out _).mono ?_; rintro e w4 ⟨rfl, hb4⟩; have hb4 := hide hb4)
          go_roundw
          case rel => exact ⟨k + 1, by go_num, by omega, by rw [htk.out], hbel.out.trans (hb4.out.mono hz)⟩
          case measure => simp [intOf] <;> omega
        · obtain rfl : k = n := by omega
          have hfull : Hid (addS S0 ((l.take k).map digS) = addS S0 (l.map digS)) := by show _ = _; rw [List.take_of_length_le (by rw [hn.out]; exact Nat.le_refl _)]
          rw [← hfull.out] at hq
          generalize addS S0 ((l.take k).map digS) = S at *
          have hres : Hid ((S, 0) = q) := by show _ = _; rw [← hq.out, if_neg (by omega)]
          have h4 : ¬ (4096 : Int) < S.size := by omega
          replace hbel := hide hbel
          clear hq hsz hszl hfull
          go_wp2_with fail
          go_ret2
          exact ⟨by rw [← hres.out]; rfl, bthen k3.out hbel.out⟩
end Go.Proofs.YtcpakoobgcdekaaDoor

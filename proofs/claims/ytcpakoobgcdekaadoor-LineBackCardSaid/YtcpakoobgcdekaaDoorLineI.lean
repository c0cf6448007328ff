/- A line's words: the reference's split walked. By the prover of this repo. -/
import Derived.Test.YtcpakoobgcdekaaDoorLineH
import Derived.Test.YtcpakoobgcdekaaDoorLineC
import Derived.Test.YtcpakoobgcdekaaDoorInts
namespace Go.Proofs.YtcpakoobgcdekaaDoor
open Go.RowKit

theorem own_sts {w : World} {base n : Nat} {v : Value} {l : List ByteArray} (hn : l.length = n) (h : w.ownsRow base 9 1 v n (sv l)) : Sts w v l := by
  subst hn
  obtain ⟨A, c, rfl, h1, h2, h3⟩ := own_form h
  refine ⟨A, c, rfl, h1, h2, h3, (own_rd h).congr fun i hi => ?_⟩
  show (sv l).getD i undef = _
  rw [List.getD_eq_getElem?_getD, sv_get l i (by omega)]
  rfl
def mkS (l : List UInt8) : ByteArray := ⟨l.toArray⟩
/-- What the split has so far, from 'a' on, at 'i'. -/
def SpR (s : ByteArray) (a i : Nat) (L : List ByteArray) : Prop :=
  (i ≤ s.size → a ≤ i ∧ L ++ (splitW ((s.data.toList.drop a).take (i - a)) (s.data.toList.drop i)).map mkS = wordsOf s) ∧ (s.size < i → L = wordsOf s)
theorem piece_eq (s : ByteArray) (a i : Nat) : mkS ((s.data.toList.drop a).take (i - a)) = s.extract a i := by
  apply str_ext
  rw [Lib.extract_data]
  simp [mkS]
theorem spR_start (s : ByteArray) : SpR s 0 0 [] := ⟨fun _ => ⟨Nat.le_refl _, by rw [List.nil_append]; rfl⟩, fun h => by omega⟩
theorem spR_blank {s : ByteArray} {a i : Nat} {L : List ByteArray} (h : SpR s a i L) (hi : i < s.size) (h32 : s[i].toNat = 32) : SpR s (i + 1) (i + 1) (L ++ [s.extract a i]) := by
  obtain ⟨h1, h2⟩ := h.1 (by omega)
  refine ⟨fun _ => ⟨Nat.le_refl _, ?_⟩, fun h => by omega⟩
  have e : s[i] = 32 := by rw [← UInt8.toNat_inj, h32]; rfl
  rw [drop_at s i hi, e, splitW_blank, List.map_cons, piece_eq] at h2
  rw [← h2, Nat.sub_self, List.take_zero, List.append_assoc]
  rfl
theorem spR_on {s : ByteArray} {a i : Nat} {L : List ByteArray} (h : SpR s a i L) (hi : i < s.size) (h32 : ¬ s[i].toNat = 32) : SpR s a (i + 1) L := by
  obtain ⟨h1, h2⟩ := h.1 (by omega)
  refine ⟨fun _ => ⟨by omega, ?_⟩, fun h => by omega⟩
  have e : s[i] ≠ 32 := fun e => h32 (by rw [e]; rfl)
  rw [drop_at s i hi, splitW_on _ e] at h2
  rw [← h2, show i + 1 - a = (i - a) + 1 by omega]
  congr 3
  have hl : i - a < (s.data.toList.drop a).length := by rw [List.length_drop, len_size]; omega
  rw [List.take_succ_eq_append_getElem hl, List.getElem_drop]
  have hil : i < s.data.toList.length := by rw [len_size]; omega
  have : s.data.toList[a + (i - a)]'(by omega) = s.data.toList[i] := by congr 1; omega
  rw [this]
  rfl
theorem spR_end {s : ByteArray} {a : Nat} {L : List ByteArray} (h : SpR s a s.size L) : SpR s (s.size + 1) (s.size + 1) (L ++ [s.extract a s.size]) := by
  obtain ⟨h1, h2⟩ := h.1 (Nat.le_refl _)
  refine ⟨fun h => by omega, fun _ => ?_⟩
  rw [List.drop_of_length_le (show s.data.toList.length ≤ s.size by rw [len_size]; exact Nat.le_refl _), splitW_nil, List.map_cons, List.map_nil, piece_eq] at h2
  exact h2
set_option maxRecDepth 100000 in
set_option maxHeartbeats 1000000 in
theorem ref35_split (s : ByteArray) (w : World) (hs : s.size ≤ 1000000) :
    Calls Tryd.prog 68 #[.string s] w fun e w' => (∃ v, e = .returned v ∧ Sts w' v (wordsOf s)) ∧ Below w.heap.size w w' := by
  go_enter Tryd.func68, Tryd.ntmps68
  go_wp2_with fail
  go_loopw [3, 4, 5] (fun out fr x wr => ∃ (i a : Nat) (L : List ByteArray), fr = .int .i64 a ∧ x = .int .i64 i ∧ i ≤ s.size + 1 ∧ L.length ≤ i ∧ a ≤ i ∧ wr.ownsRow w.heap.size 9 1 out L.length (sv L) ∧ Hid (SpR s a i L) ∧ Below w.heap.size w wr) (fun _ _ x _ => s.size + 1 - (intOf x).toNat)
  case atStart => exact ⟨0, 0, [], rfl, rfl, by omega, Nat.le_refl _, Nat.le_refl _, World.ownsRow_nil _ _ _ _, spR_start s, Below.refl _ _⟩
  case round =>
    obtain ⟨i, a, L, rfl, rfl, hi, hLi, hai, how, hsp, hbel⟩ := hrel
    obtain ⟨Ao, co, rfl, ho1, ho2, ho3⟩ := own_form how
    have hz := hbel.size
    have how := hide how
    have hbel := hide hbel
    have hfin := hide (fun (W : World) (v : Value) (L' : List ByteArray) (h : W.ownsRow w.heap.size 9 1 v L'.length (sv L')) => own_sts (l := L') rfl h)
    by_cases hle : i ≤ s.size
    · by_cases hlt : i < s.size
      · have hb1 : ((i : Int) == (s.size : Int)) = false := by rw [beq_eq_false_iff_ne]; omega
        by_cases h32 : s[i].toNat = 32
        · have hb2 : ((s[i].toNat : Int) == 32) = true := by rw [beq_iff_eq]; omega
          have hnew := hide (spR_blank hsp.out hlt h32)
          obtain ⟨n, hn⟩ : ∃ n, Hid (L.length = n) := ⟨_, rfl⟩
          rw [hn.out] at how hLi ho1 ho2 ⊢
          go_wp2_with (at_builtin; refine wpList_app1 elStr rfl (.tmp 22) (.tmp 27) rfl w.heap.size _ _ _ [.string (s.extract a i)] 9 rfl how.out rfl rfl (one1 rfl) (by omega) hz ?_; intro v1 w1 how1 hb1 hgr1 hat1; have how1 := hide how1; have hb1 := hide hb1; clear hgr1 hat1)
          go_roundw
          case rel => exact ⟨i + 1, i + 1, L ++ [s.extract a i], by go_num, by go_num, by omega, by rw [List.length_append, hn.out]; simp; omega, Nat.le_refl _, by rw [List.length_append, sv_snoc, hn.out]; exact how1.out, hnew.out, hbel.out.trans hb1.out⟩
          case measure => simp [intOf] <;> omega
        · have hb2 : ((s[i].toNat : Int) == 32) = false := by rw [beq_eq_false_iff_ne]; omega
          have hnew := hide (spR_on hsp.out hlt h32)
          go_wp2_with fail
          go_roundw
          case rel => exact ⟨i + 1, a, L, rfl, by go_num, by omega, by omega, by omega, how.out, hnew.out, hbel.out⟩
          case measure => simp [intOf] <;> omega
      · obtain rfl : i = s.size := by omega
        have hnew := hide (spR_end hsp.out)
        obtain ⟨n, hn⟩ : ∃ n, Hid (L.length = n) := ⟨_, rfl⟩
        rw [hn.out] at how hLi ho1 ho2 ⊢
        go_wp2_with (at_builtin; refine wpList_app1 elStr rfl (.tmp 22) (.tmp 27) rfl w.heap.size _ _ _ [.string (s.extract a s.size)] 9 rfl how.out rfl rfl (one1 rfl) (by omega) hz ?_; intro v1 w1 how1 hb1 hgr1 hat1; have how1 := hide how1; have hb1 := hide hb1; clear hgr1 hat1)
        go_roundw
        case rel => exact ⟨s.size + 1, s.size + 1, L ++ [s.extract a s.size], by go_num, by go_num, by omega, by rw [List.length_append, hn.out]; simp; omega, Nat.le_refl _, by rw [List.length_append, sv_snoc, hn.out]; exact how1.out, hnew.out, hbel.out.trans hb1.out⟩
        case measure => simp [intOf] <;> omega
    · have hL := hide (hsp.out.2 (by omega))
      go_wp2_with fail
      go_ret
      exact ⟨⟨_, rfl, by rw [← hL.out]; exact hfin.out _ _ L how.out⟩, hbel.out⟩
end Go.Proofs.YtcpakoobgcdekaaDoor

/- The walks of layer 6, on: slices.Concat of two lists, and the program's Join. By the prover of this repo. -/
import Derived.Test.YtbfecpomlkapdaaRollN
import Derived.Test.YtbfecpomlkapdaaRollJ
namespace Go.Proofs.Ytbfecpomlkapdaa
open Go.RowKit
open TwigM RollM

set_option maxRecDepth 100000 in
set_option maxHeartbeats 4000000 in
theorem concat_c (g : Nat) (A B : Option Addr) (ca cb : Nat) (a b : List Nd) (w : World) (hB2 : Blk w g 31 #[.slice A a.length ca, .slice B b.length cb]) (hr : Rd w A a.length 2 (ndc a)) (hs : Rd w B b.length 2 (ndc b)) (hA : A = none → a.length = 0) (hB : B = none → b.length = 0) (hl : a.length + b.length ≤ 1000000) :
    Calls Try.prog 69 #[.slice (some ⟨g, 0, none⟩) 2 2] w fun e w' => ∃ v, e = .returned v ∧ Nds w' v (a ++ b) ∧ Below w.heap.size w w' := by
  have hra := hide (ndv_range a)
  have hrb := hide (ndv_range b)
  have hab := hide (ndv_append a b)
  have hlen : Hid ((a ++ b).length = a.length + b.length) := by show _ = _; simp
  have hoa := hide (ndc_one a)
  have hob := hide (ndc_one b)
  have hrH := hide hr
  have hsH := hide hs
  have hg := hB2.lt
  have hc0 := hB2.cell 0
  have hc1 := hB2.cell 1
  simp only [List.getElem?_toArray, List.getElem?_cons_zero, List.getElem?_cons_succ] at hc0 hc1
  generalize hna : a.length = na at *
  generalize hnb : b.length = nb at *
  have hG := fun W => grow_nil (na + nb) W hl
  rw [Int.natCast_add] at hG
  replace hG := hide hG
  replace hna := hide hna
  replace hnb := hide hnb
  clear hr hs
  go_enter Try.func69, Try.ntmps69
  go_wp2_with fail
  go_loopw [3, 11] (fun sz k wr => ((k = .int .i64 0 ∧ sz = .int .i64 0) ∨ (k = .int .i64 1 ∧ sz = .int .i64 na) ∨ (k = .int .i64 2 ∧ sz = .int .i64 (na + nb))) ∧ wr = w) (fun _ k _ => 2 - (intOf k).toNat)
  case atStart => exact ⟨.inl ⟨rfl, rfl⟩, rfl⟩
  case round =>
    obtain ⟨hrel, rfl⟩ := hrel
    rcases hrel with ⟨rfl, rfl⟩ | ⟨rfl, rfl⟩ | ⟨rfl, rfl⟩
    · go_wp2_with fail
      go_roundw
      case rel => exact ⟨.inr (.inl ⟨by go_num, by go_num⟩), trivial⟩
      case measure => simp [intOf]
    · go_wp2_with fail
      go_roundw
      case rel => exact ⟨.inr (.inr ⟨by go_num, by go_num⟩), trivial⟩
      case measure => simp [intOf]
    · go_wp2_with fail
      refine (hG.out _).mono ?_
      rintro e w1 ⟨v1, rfl, how1, hb1⟩
      have hlt1 : g < w1.heap.size := Nat.lt_of_lt_of_le hg hb1.size
      go_wp2_with fail
      go_loopw [6, 27] (fun out k w2 => ∃ (m : Nat) (l : List Nd), ((k = .int .i64 0 ∧ m = 0 ∧ l = []) ∨ (k = .int .i64 1 ∧ m = na ∧ l = a) ∨ (k = .int .i64 2 ∧ m = na + nb ∧ l = a ++ b)) ∧ w2.ownsRow wr.heap.size 43 2 out m (ndv l) ∧ Below wr.heap.size wr w2) (fun _ k _ => 2 - (intOf k).toNat)
      case atStart => exact ⟨0, [], .inl ⟨rfl, rfl, rfl⟩, how1, hb1⟩
      case round =>
        clear how1 hb1 hlt1
        obtain ⟨m, l, hrel, how, hbel⟩ := hrel
        obtain ⟨wo, rfl⟩ : ∃ wo : World, wo = wr := ⟨_, rfl⟩
        have k0 := (hbel.cell (p := ⟨g, 0, none⟩) hg).trans hc0
        have k1 := (hbel.cell (p := ⟨g, 1, none⟩) hg).trans hc1
        have hgo : g < wo.heap.size := Nat.lt_of_lt_of_le hg hbel.size
        rcases hrel with ⟨rfl, rfl, rfl⟩ | ⟨rfl, rfl, rfl⟩ | ⟨rfl, rfl, rfl⟩
        · go_wp2_with (at_builtin; refine wpList_app elNode rfl (.tmp 31) (.tmp 32) rfl wr.heap.size _ _ _ rfl how A na ca (ndc a) rfl (hrH.out.of_below (Nat.le_refl _) hbel) (fun i _ => hoa.out i) (by omega) hbel.size hA ?_; intro v2 w2 how2 hb2 hgr2 hat2)
          go_roundw
          case rel =>
            refine ⟨na, a, .inr (.inl ⟨by go_num, rfl, rfl⟩), ?_, hbel.trans hb2⟩
            rw [hra.out, Nat.zero_add] at how2
            exact how2
          case measure => simp [intOf]
        · go_wp2_with (at_builtin; refine wpList_app elNode rfl (.tmp 31) (.tmp 32) rfl wr.heap.size _ _ _ rfl how B nb cb (ndc b) rfl (hsH.out.of_below (Nat.le_refl _) hbel) (fun i _ => hob.out i) (by omega) hbel.size hB ?_; intro v2 w2 how2 hb2 hgr2 hat2)
          go_roundw
          case rel =>
            refine ⟨m + nb, l ++ b, .inr (.inr ⟨by go_num, rfl, rfl⟩), ?_, hbel.trans hb2⟩
            rw [hrb.out, ← hab.out] at how2
            exact how2
          case measure => simp [intOf]
        · go_wp2_with fail
          go_ret
          exact ⟨_, rfl, own_nds (by rw [hlen.out]; exact how), hbel⟩

theorem roll_join (A B : Option Addr) (ca cb : Nat) (a b : List Nd) (w : World) (hr : Rd w A a.length 2 (ndc a)) (hs : Rd w B b.length 2 (ndc b)) (hA : A = none → a.length = 0) (hB : B = none → b.length = 0) (hl : a.length + b.length ≤ 1000000) (hwf : NdWf (a ++ b)) :
    Calls Try.prog 54 #[.slice A a.length ca, .slice B b.length cb] w fun e w' => ∃ v, e = .returned (.tuple #[v, .bool (joinF a b).2]) ∧ Nds w' v (joinF a b).1 ∧ Below w.heap.size w w' := by
  unfold joinF
  have hF : ∀ (W : World) (v : Value) (h : Nds W v (a ++ b)), Calls Try.prog 52 #[v] W fun e w' => ∃ v, e = .returned (.tuple #[v, .bool (foldF (a ++ b)).2]) ∧ Nds w' v (foldF (a ++ b)).1 ∧ Below W.heap.size W w' := by
    intro W v h
    obtain ⟨A2, c2, rfl, hA2, hc2, hm2, hr2⟩ := h
    exact roll_fold A2 c2 (a ++ b) W hr2 hA2 hc2 hm2 (by simpa using hl) hwf
  have hC := concat_c w.heap.size A B ca cb a b _ (Blk.made w 31 #[.slice A a.length ca, .slice B b.length cb]) (hr.alloc _) (hs.alloc _) hA hB hl
  replace hF := hide hF
  replace hC := hide hC
  generalize foldF (a ++ b) = G at *
  clear hr hs hA hB hl hwf
  generalize a.length = na at *
  generalize b.length = nb at *
  go_enter Try.func54, Try.ntmps54
  go_wp2_with fail
  refine hC.out.mono ?_
  rintro e w1 ⟨v1, rfl, hv1, hb1⟩
  go_wp2_with fail
  refine (hF.out _ _ hv1).mono ?_
  rintro e w2 ⟨v2, rfl, hv2, hb2⟩
  go_wp2_with fail
  go_ret2
  exact ⟨v2, rfl, hv2, bthen (bthen (balloc0 _ _) hb1) hb2⟩
end Go.Proofs.Ytbfecpomlkapdaa

/- The walks of layer 5, on: Rest. By the prover of this repo. -/
import Derived.Test.YtbibchdjojmpaaaTileJW
import Derived.Test.YtbibchdjojmpaaaTileO
namespace Go.Proofs.Ytbibchdjojmpaaa
open Go.RowKit
open TwigM TileM

theorem mergeUp_length : ∀ (S : List Int) (x : Int), (mergeUp S x).length ≤ S.length + 1
  | [], x => by simp [mergeUp]
  | t :: S, x => by
    rw [mergeUp]
    have := mergeUp_length S (x / 2)
    split <;> simp <;> omega
theorem joinGo_length : ∀ (r S : List Int), (joinGo S r).length ≤ S.length + r.length
  | [], S => by simp [joinGo]
  | x :: r, S => by
    rw [joinGo]
    have h1 := joinGo_length r S
    have h2 := joinGo_length r (mergeUp S x)
    have h3 := mergeUp_length S x
    split <;> simp <;> omega
def befB (L a b : Int) : Bool := decide (lo L a < lo L b ∨ (lo L a = lo L b ∧ a ≤ b))
theorem joinR_length {L : Int} {l : List Int} (hL1 : 1 ≤ L) (hL2 : L ≤ 48) (hN : ∀ t ∈ l, Nd L t) : (joinR L l).length ≤ l.length := by
  have hp := List.mergeSort_perm l (befB L)
  have hs := List.pairwise_mergeSort (le := befB L) (by intro a b c; unfold befB; simp only [decide_eq_true_eq]; omega) (by intro a b; unfold befB; simp only [Bool.or_eq_true, decide_eq_true_eq]; omega) l
  rw [← join_eq hL1 hL2 hN (fun t => hp.mem_iff) (hs.imp (by intro a b h; exact of_decide_eq_true (p := lo L a < lo L b ∨ (lo L a = lo L b ∧ a ≤ b)) h)), List.length_reverse]
  have := joinGo_length (l.mergeSort (befB L)) []
  rw [hp.length_eq] at this
  simpa using this

/-- What the program's Rest tells. -/
def restL (L : Int) (l : List Int) : List Int := if allB L l = true then restT L l else []
/-- Between two rounds: how many are done, what is out, from where on. -/
def RRel (L : Int) (T : List Int) (G : List Int) (wc : World) (out from_ idx : Value) (wr : World) : Prop :=
  ∃ (i : Nat) (acc : List Int) (x : Int), idx = .int .i64 i ∧ from_ = .int .i64 x ∧ i ≤ T.length ∧ acc.length ≤ 96 * i ∧ From L x (runsOf L (T.drop i)) ∧ wr.ownsRow wc.heap.size 3 1 out acc.length (iv acc) ∧
    Hid (acc ++ layR L (restR L x (runsOf L (T.drop i))) = G) ∧ Below wc.heap.size wc wr

theorem own_app {w : World} {base k : Nat} {v : Value} {acc ol : List Int} (hk : acc.length = k) (h : w.ownsRow base 3 1 v (k + ol.length) (iv acc ++ (List.range (ol.length * 1)).map (ic ol))) : w.ownsRow base 3 1 v (acc ++ ol).length (iv (acc ++ ol)) := by
  rw [Nat.mul_one, iv_range] at h
  rw [List.length_append, hk, iv_append]
  exact h
set_option maxRecDepth 100000 in
set_option maxHeartbeats 4000000 in
theorem tiles_rest (L : Int) (A : Option Addr) (c : Nat) (l : List Int) (w : World) (hr : Rd w A l.length 1 (ic l)) (hA : A = none → l.length = 0) (hl : l.length ≤ 100000) :
    Calls Try.prog 24 #[.int .i64 L, .slice A l.length c] w fun e w' => ∃ v, e = .returned (.tuple #[v, .bool (allB L l)]) ∧ Its w' v (restL L l) ∧ Below w.heap.size w w' := by
  have hall := hide (all_c L A c l w hr (by omega))
  have hjoi := hide (tiles_join L A c l w hr hA hl)
  clear hr
  cases hq : allB L l
  · have e : restL L l = [] := by unfold restL; rw [hq]; rfl
    rw [e]
    rw [hq] at hall
    clear e hq hjoi
    go_enter Try.func24, Try.ntmps24
    go_wp2_with (go_at_call 44; refine hall.out.mono ?_; rintro e w1 ⟨rfl, rfl⟩)
    go_ret2
    exact ⟨_, rfl, Its.nil _, Below.refl _ _⟩
  · obtain ⟨hL1, hL2, hN⟩ := nd_of_all hq
    have e : Hid (restL L l = restT L l) := by show _ = _; unfold restL; rw [hq]; rfl
    have ej : joinL L l = joinR L l := by unfold joinL; rw [hq]; rfl
    rw [hq] at hall hjoi
    rw [ej] at hjoi
    have hTl := joinR_length hL1 hL2 hN
    have hK := joinR_canon hL1 hL2 hN
    have hG := rest_eq hL1 hL2 hN
    have hTN := hide hK.nd
    have hpw := pw_pos L
    have hF := runsOf_from (joinR L l) 0 hK.nd hK.apart (Int.le_refl _) (by omega) (fun t ht => lo_nonneg (hK.nd t ht))
    rw [← e.out] at hG
    generalize joinR L l = T at *
    obtain ⟨n, hn⟩ : ∃ n, Hid (l.length = n) := ⟨_, rfl⟩
    rw [hn.out] at hall hjoi hl hTl ⊢
    have hpw2 := pw_le48 hL2
    have hF := hide hF
    have hG := hide hG
    clear hK hN hq ej hA e hn
    go_enter Try.func24, Try.ntmps24
    go_wp2_with (first
      | (go_at_call 44; refine hall.out.mono ?_; rintro e w1 ⟨rfl, rfl⟩)
      | (go_at_call 22; refine hjoi.out.mono ?_; rintro e w1 ⟨v1, rfl, hv1, hb1⟩; obtain ⟨A1, c1, rfl, hA1, hc1, hc2, hr1⟩ := hv1; have hr1 := hide hr1; have hb1 := hide hb1))
    obtain ⟨m, hm⟩ : ∃ m, Hid (T.length = m) := ⟨_, rfl⟩
    rw [hm.out] at hA1 hc1 hTl ⊢
    go_loopw [8, 9, 32] (fun out from_ idx wr => RRel L T (restL L l) w1 out from_ idx wr) (fun _ _ idx _ => m - (intOf idx).toNat)
    case atStart => exact ⟨0, [], 0, rfl, rfl, Nat.zero_le _, Nat.zero_le _, by rw [List.drop_zero]; exact hF.out, World.ownsRow_nil _ _ _ _, by show _ = _; rw [List.drop_zero, List.nil_append]; exact hG.out, Below.refl _ _⟩
    case round =>
      clear hall hjoi hF hG
      obtain ⟨i, acc, x, rfl, rfl, hin, hacc, hFr, how, hgo, hbel⟩ := hrel
      obtain ⟨Ao, co, rfl, ho1, ho2, ho3⟩ := own_form how
      rw [hm.out] at hin
      have hx := From.le _ _ hFr
      obtain ⟨k, hk⟩ : ∃ k, Hid (acc.length = k) := ⟨_, rfl⟩
      rw [hk.out] at hacc how ho1 ho2 ⊢
      have hz := hbel.size
      by_cases hlt : i < m
      · have hil : i < T.length := by rw [hm.out]; exact hlt
        obtain ⟨b, off, rfl, hbs, hc⟩ := it_at (hr1.out.of_below (Nat.le_refl _) hbel) hil
        rw [List.drop_eq_getElem_cons hil] at hgo hFr
        have hxN := hTN.out T[i] (List.getElem_mem hil)
        generalize T[i] = t at *
        obtain ⟨f1, f2, f3, f4⟩ := hFr
        have hE := fun W => ends_yes L t W hxN.l1 hxN.l2 hxN.a hxN.b
        change ∀ W : World, Calls _ _ _ _ fun e w' => e = .returned (.tuple #[.int .i64 (lo L t), .int .i64 (hi L t), .bool true]) ∧ ∃ n, w' = W.drewN n at hE
        have hO := fun W => tiles_of L x (lo L t - 1) W (by omega) (by have := node_range hxN; have := lo_le_hi hxN; omega)
        have hnr := node_range hxN
        have hle := lo_le_hi hxN
        have hgo2 : Hid (acc ++ ((if x < lo L t then tilesF L x (lo L t - 1) else []) ++ layR L (restR L (hi L t + 1) (runsOf L (T.drop (i + 1))))) = restL L l) := by
          show _ = _
          rw [← hgo.out]
          show _ = acc ++ layR L ((if x < lo L t then [(x, lo L t - 1)] else []) ++ restR L (hi L t + 1) (runsOf L (T.drop (i + 1))))
          split <;> simp [layR]
        simp only [] at f2 f3 f4
        have hoL : x < lo L t → ofL L x (lo L t - 1) = tilesF L x (lo L t - 1) := fun h => by
          have : ofB L x (lo L t - 1) = true := decide_eq_true ⟨hL1, hL2, f1, by omega, by omega⟩
          unfold ofL; rw [if_pos this]
        have hoN := ofL_length L x (lo L t - 1)
        generalize ofB L x (lo L t - 1) = ob at hO
        generalize ofL L x (lo L t - 1) = ol at hO hoL hoN
        change From L (hi L t + 1) (runsOf L (T.drop (i + 1))) at f4
        change x ≤ lo L t at f2
        change lo L t ≤ hi L t at f3
        generalize lo L t = p at *
        generalize hi L t = q at *
        replace hE := hide hE
        replace hO := hide hO
        replace f4 := hide f4
        replace hoL := hide hoL
        have how := hide how
        have hbel := hide hbel
        clear hgo
        by_cases hxp : x < p
        · rw [if_pos hxp, ← hoL.out hxp] at hgo2
          have hring := hide (ic_one ol)
          go_wp2_with (first
            | (go_at_call 28; refine (hE.out _).mono ?_; rintro e w' ⟨rfl, nd, rfl⟩)
            | (go_at_call 18; refine (hO.out _).mono ?_; rintro e w2 ⟨vg, rfl, hvg, hb2⟩; obtain ⟨Ag, cg, rfl, hg1, hg2, hg3, hrg⟩ := hvg; have how2 := hide (own_kept1 (own_drewN how.out nd) hb2); have hz2 : w1.heap.size ≤ w2.heap.size := Nat.le_trans hz hb2.size; have hb2 := hide hb2; have hrg := hide hrg)
            | (at_builtin; refine wpList_app elInt rfl (.tmp 54) (.tmp 55) rfl w1.heap.size _ _ _ rfl how2.out Ag ol.length cg (ic ol) rfl hrg.out (fun i _ => hring.out i) (by omega) hz2 hg1 ?_; intro v3 w3 how3 hb3 hgr3 hat3; have how3 := hide how3; have hb3 := hide hb3; clear hgr3 hat3))
          go_roundw
          case rel => exact ⟨i + 1, acc ++ ol, q + 1, rfl, rfl, by rw [hm.out]; omega, by rw [List.length_append, hk.out]; omega, f4.out, own_app hk.out how3.out, by rw [List.append_assoc]; exact hgo2, ((below_drewN hbel.out _).trans (hb2.out.mono hz)).trans hb3.out⟩
          case measure => simp [intOf]; omega
        · rw [if_neg hxp, List.nil_append] at hgo2
          go_wp2_with (go_at_call 28; refine (hE.out _).mono ?_; rintro e w' ⟨rfl, nd, rfl⟩)
          go_roundw
          case rel => exact ⟨i + 1, acc, q + 1, rfl, rfl, by rw [hm.out]; omega, by rw [hk.out]; omega, f4.out, by rw [hk.out]; exact own_drewN how.out _, hgo2, below_drewN hbel.out _⟩
          case measure => simp [intOf]; omega
      · have hin : i = m := by omega
        have hdrop : T.drop i = [] := by rw [hin, ← hm.out, List.drop_length]
        rw [hdrop] at hgo
        have hgo2 : Hid (acc ++ (if x < pw L then tilesF L x (pw L - 1) else []) = restL L l) := by
          show _ = _
          rw [← hgo.out]
          show _ = acc ++ layR L (if x < pw L then [(x, pw L - 1)] else [])
          split <;> simp [layR]
        have hO := fun W => tiles_of L x (pw L - 1) W (by omega) (by omega)
        have hoL : x < pw L → ofL L x (pw L - 1) = tilesF L x (pw L - 1) := fun h => by
          have : ofB L x (pw L - 1) = true := decide_eq_true ⟨hL1, hL2, hx.1, by omega, by omega⟩
          unfold ofL; rw [if_pos this]
        have hoN := ofL_length L x (pw L - 1)
        generalize ofB L x (pw L - 1) = ob at hO
        generalize ofL L x (pw L - 1) = ol at hO hoL hoN
        have hp : (2 : Int) ^ L.toNat = pw L := rfl
        replace hO := hide hO
        replace hoL := hide hoL
        have how := hide how
        have hbel := hide hbel
        clear hgo hdrop hFr
        by_cases hxp : x < pw L
        · rw [if_pos hxp, ← hoL.out hxp] at hgo2
          have hring := hide (ic_one ol)
          go_wp2_with (first
            | (go_at_call 18; refine (hO.out _).mono ?_; rintro e w2 ⟨vg, rfl, hvg, hb2⟩; obtain ⟨Ag, cg, rfl, hg1, hg2, hg3, hrg⟩ := hvg; have how2 := hide (own_kept1 how.out hb2); have hz2 : w1.heap.size ≤ w2.heap.size := Nat.le_trans hz hb2.size; have hb2 := hide hb2; have hrg := hide hrg)
            | (at_builtin; refine wpList_app elInt rfl (.tmp 73) (.tmp 74) rfl w1.heap.size _ _ _ rfl how2.out Ag ol.length cg (ic ol) rfl hrg.out (fun i _ => hring.out i) (by omega) hz2 hg1 ?_; intro v3 w3 how3 hb3 hgr3 hat3; have how3 := hide how3; have hb3 := hide hb3; clear hgr3 hat3))
          go_ret2
          refine ⟨_, rfl, ?_, (hb1.out.trans ((hbel.out.trans (hb2.out.mono hz)).mono hb1.out.size)).trans (hb3.out.mono hb1.out.size)⟩
          rw [← hgo2.out]
          exact own_its rfl (own_app hk.out how3.out)
        · rw [if_neg hxp, List.append_nil] at hgo2
          go_wp2_with fail
          go_ret2
          refine ⟨_, rfl, ?_, hb1.out.trans (hbel.out.mono hb1.out.size)⟩
          rw [← hgo2.out]
          exact own_its hk.out how.out
end Go.Proofs.Ytbibchdjojmpaaa

/- The walks of layer 6, on: two lists as one. By the prover of this repo. -/
import Derived.Test.YtbfecpomlkapdaaRollG
namespace Go.Proofs.Ytbfecpomlkapdaa
open Go.RowKit
open TwigM RollM

theorem nd_append {a b : List Nd} (ha : NdWf a) (hb : NdWf b) : NdWf (a ++ b) := fun p hp => (List.mem_append.1 hp).elim (ha p) (hb p)

set_option maxRecDepth 100000 in
set_option maxHeartbeats 4000000 in
theorem ref06_join (A B : Option Addr) (ca cb : Nat) (a b : List Nd) (w : World) (hr : Rd w A a.length 2 (ndc a)) (hs : Rd w B b.length 2 (ndc b)) (hA : A = none → a.length = 0) (hB : B = none → b.length = 0) (hl : a.length + b.length ≤ 1000000) (hwf : NdWf (a ++ b)) :
    Calls Try.prog 55 #[.slice A a.length ca, .slice B b.length cb] w fun e w' => ∃ v, e = .returned (.tuple #[v, .bool (joinF a b).2]) ∧ Nds w' v (joinF a b).1 ∧ Below w.heap.size w w' := by
  unfold joinF
  have hF : ∀ (W : World) (v : Value) (h : Nds W v (a ++ b)), Calls Try.prog 53 #[v] W fun e w' => ∃ v, e = .returned (.tuple #[v, .bool (foldF (a ++ b)).2]) ∧ Nds w' v (foldF (a ++ b)).1 ∧ Below W.heap.size W w' := by
    intro W v h
    obtain ⟨A2, c2, rfl, hA2, hc2, hm2, hr2⟩ := h
    exact ref06_fold A2 c2 (a ++ b) W hr2 hA2 hc2 hm2 (by simpa using hl) hwf
  have hra := hide (ndv_range a)
  have hrb := hide (ndv_range b)
  have hab := hide (ndv_append a b)
  have hlen : Hid ((a ++ b).length = a.length + b.length) := by show _ = _; simp
  replace hF := hide hF
  have hoa := hide (ndc_one a)
  have hob := hide (ndc_one b)
  have hrH := hide hr
  have hsH := hide hs
  generalize foldF (a ++ b) = G at *
  generalize hna : a.length = na at *
  generalize hnb : b.length = nb at *
  replace hna := hide hna
  replace hnb := hide hnb
  clear hr hs
  go_enter Try.func55, Try.ntmps55
  go_wp2_with (first
    | (at_builtin; refine wpList_app elNode rfl (.tmp 7) (.tmp 8) rfl w.heap.size _ 0 [] rfl (World.ownsRow_nil _ _ _ _) A na ca (ndc a) rfl hrH.out (fun i _ => hoa.out i) (by omega) (Nat.le_refl _) hA ?_; intro v1 w1 how1 hb1 hgr1 hat1)
    | (at_builtin; refine wpList_app elNode rfl (.tmp 10) (.tmp 11) rfl w.heap.size _ _ _ rfl how1 B nb cb (ndc b) rfl (hsH.out.of_below (Nat.le_refl _) hb1) (fun i _ => hob.out i) (by omega) hb1.size hB ?_; intro v2 w2 how2 hb2 hgr2 hat2; rw [hra.out, hrb.out, List.nil_append, ← hab.out, Nat.zero_add] at how2; have hnds := own_nds (base := w.heap.size) (l := a ++ b) (by rw [hlen.out]; exact how2); replace hnds := hide hnds)
    | (go_at_call 53; refine (hF.out _ _ hnds.out).mono ?_; rintro e w3 ⟨v3, rfl, hv3, hb3⟩))
  go_ret2
  exact ⟨v3, rfl, hv3, bthen (hb1.trans hb2) hb3⟩
end Go.Proofs.Ytbfecpomlkapdaa

/- The walks of layer 6, on: lists of nodes that the call owns; a clone. By the prover of this repo. -/
import Derived.Test.YtbfecpomlkapdaaRollY
import Derived.Deep.RegionHeldLaw
import Derived.Deep.AppendLies
namespace Go.Proofs.Ytbfecpomlkapdaa
open Go.RowKit
open TwigM RollM

theorem elNode : Elem Try.prog 31 43 (nv (0, 0)) 2 16 := ⟨Try.underlying31, by kernel_rfl, rfl, by omega⟩
theorem ndv_length (l : List Nd) : (ndv l).length = l.length * 2 := by
  induction l with
  | nil => rfl
  | cons p l ih => simp [ndv] at *; omega
theorem ndv_append (l m : List Nd) : ndv (l ++ m) = ndv l ++ ndv m := by simp [ndv]
theorem ndv_snoc (l : List Nd) (p : Nd) : ndv (l ++ [p]) = ndv l ++ [.int .i64 p.1, .int .i64 p.2] := by simp [ndv]
theorem ndc_cons (p : Nd) (l : List Nd) (j : Nat) : ndc (p :: l) (j + 2) = ndc l j := by
  have h1 : (j + 2) % 2 = j % 2 := by omega
  have h2 : (j + 2) / 2 = j / 2 + 1 := by omega
  simp [ndc, h1, h2]
theorem ndv_get : ∀ (l : List Nd) (i : Nat), i < l.length * 2 → (ndv l)[i]? = some (ndc l i)
  | [], i, h => by simp at h
  | p :: l, 0, _ => by simp [ndv, ndc]
  | p :: l, 1, _ => by simp [ndv, ndc]
  | p :: l, i + 2, h => by
    rw [ndc_cons, ← ndv_get l i (by simp at h; omega)]
    simp [ndv]
theorem ndv_range (l : List Nd) : (List.range (l.length * 2)).map (ndc l) = ndv l := by
  apply List.ext_getElem?
  intro i
  by_cases h : i < l.length * 2
  · rw [ndv_get l i h]; simp [h]
  · rw [List.getElem?_eq_none (by simp; omega), List.getElem?_eq_none (by rw [ndv_length]; omega)]
theorem ndc_one (l : List Nd) (i : Nat) : (ndc l i).oneCell' = true := rfl
theorem nd_ones (p : Nd) : ∀ u ∈ [Value.int .i64 p.1, Value.int .i64 p.2], u.oneCell' = true := one2 rfl rfl
/-- What is owned reads as a list. -/
theorem own_nds {w : World} {base : Nat} {v : Value} {l : List Nd} (h : w.ownsRow base 43 2 v l.length (ndv l)) : Nds w v l := by
  obtain ⟨A, c, rfl, h1, h2, h3⟩ := own_form h
  refine ⟨A, c, rfl, h1, h2, h3, (own_rd h).congr fun i hi => ?_⟩
  show (ndv l).getD i undef = _
  rw [List.getD_eq_getElem?_getD, ndv_get l i hi]
  rfl

set_option maxRecDepth 100000 in
theorem clone_c (A : Option Addr) (c : Nat) (l : List Nd) (w : World) (hr : Rd w A l.length 2 (ndc l)) (hA : A = none → l.length = 0) (hl : l.length ≤ 1000000) :
    Calls Try.prog 71 #[.slice A l.length c] w fun e w' => ∃ v, e = .returned v ∧ Nds w' v l ∧ Below w.heap.size w w' := by
  cases A with
  | none =>
    have h0 := hA rfl
    have hn : l = [] := List.eq_nil_of_length_eq_zero h0
    subst hn
    have he := fun V => Lib.run_eql_slice_nil (P := Try.prog) V 31 43 none 0 c 0 0 Try.underlying31
    go_enter Try.func71, Try.ntmps71
    go_wp2_with fail
    go_ret
    exact ⟨_, rfl, Nds.nil _, Below.refl _ _⟩
  | some ad =>
    have hlen : Hid (l.length = l.length) := rfl
    have hrh := hide hr
    have hrange := hide (ndv_range l)
    have hone := hide (ndc_one l)
    obtain ⟨n, hn⟩ : ∃ n, l.length = n := ⟨_, rfl⟩
    rw [hn] at hl hrange
    have hrn : Hid (Rd w (some ad) n 2 (ndc l)) := by have := hr; rwa [hn] at this
    have hnh := hide hn
    rw [hn]
    clear hr hA hn hlen hrh
    have he := fun V => Lib.run_eql_slice_nil (P := Try.prog) V 31 43 (some ad) n c 0 0 Try.underlying31
    go_enter Try.func71, Try.ntmps71
    go_wp2_with (at_builtin; refine wpList_app elNode rfl (.tmp 5) (.tmp 6) rfl w.heap.size _ 0 [] rfl (World.ownsRow_lit w #[] 0 (Nat.le_refl _) (by unfold maxLen; omega) rfl) (some ad) n c (ndc l) rfl (hrn.out.alloc _) (fun i _ => hone.out i) (by omega) (by simp) (fun k => by cases k) ?_; intro v1 w1 how1 hb1 hgr1 hat1)
    go_ret
    have how2 : w1.ownsRow w.heap.size 43 2 v1 l.length (ndv l) := by
      rw [hrange.out, Nat.zero_add, List.nil_append] at how1
      rw [hnh.out]
      exact how1
    exact ⟨_, rfl, own_nds how2, (balloc0 _ _).trans hb1⟩
end Go.Proofs.Ytbfecpomlkapdaa

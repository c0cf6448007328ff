/- The walks of layer 5's reference, on: the tiles of runs. By the prover of this repo. -/
import Derived.Test.YtbibchdjojmpaaaRuns
import Derived.Test.YtbibchdjojmpaaaTileRW
import Derived.Deep.RegionWith
namespace Go.Proofs.Ytbibchdjojmpaaa
open Go.RowKit
open TwigM TileM

theorem layR_length (L : Int) : ∀ l : List Run, InR L l → (∀ r ∈ l, r.1 ≤ r.2) → 1 ≤ L → L ≤ 48 → (layR L l).length ≤ 96 * l.length
  | [], _, _, _, _ => by simp [layR]
  | r :: l, h, h2, h3, h4 => by
    have h1 := layR_length L l (fun x hx => h x (by simp [hx])) (fun x hx => h2 x (by simp [hx])) h3 h4
    have hr := h r (by simp)
    have hr2 := h2 r (by simp)
    have := ofL_length L r.1 r.2
    have e : ofL L r.1 r.2 = tilesF L r.1 r.2 := by
      have : ofB L r.1 r.2 = true := decide_eq_true ⟨h3, h4, hr.1, hr2, hr.2⟩
      unfold ofL; rw [if_pos this]
    rw [e] at this
    show (tilesF L r.1 r.2 ++ layR L l).length ≤ _
    rw [List.length_append, List.length_cons]; omega

set_option maxRecDepth 100000 in
set_option maxHeartbeats 4000000 in
theorem ref05_lay (L : Int) (A : Option Addr) (c : Nat) (l : List Run) (w : World) (hr : Rd w A l.length 2 (rnc l)) (hl : l.length ≤ 100000) (h1 : 1 ≤ L) (h2 : L ≤ 48) (hI : InR L l) (hle : ∀ r ∈ l, r.1 ≤ r.2) :
    Calls Try.prog 51 #[.int .i64 L, .slice A l.length c] w fun e w' => ∃ v, e = .returned v ∧ Its w' v (layR L l) ∧ Below w.heap.size w w' := by
  have hG : Hid ([] ++ layR L (l.drop 0) = layR L l) := by show _ = _; rw [List.drop_zero]; rfl
  have hlen := layR_length L l hI hle h1 h2
  generalize layR L l = G at *
  obtain ⟨n, hn⟩ : ∃ n, Hid (l.length = n) := ⟨_, rfl⟩
  have hrh := hide hr
  rw [hn.out] at hl hlen ⊢
  have hI := hide hI
  have hle := hide hle
  have hpw := pw_le48 h2
  clear hr
  go_enter Try.func51, Try.ntmps51
  go_wp2_with fail
  go_loopw [5, 6] (fun out idx wr => ∃ (i : Nat) (acc : List Int), idx = .int .i64 i ∧ i ≤ n ∧ wr.ownsRow w.heap.size 3 1 out acc.length (iv acc) ∧ Hid (acc ++ layR L (l.drop i) = G) ∧ Below w.heap.size w wr) (fun _ idx _ => n - (intOf idx).toNat)
  case atStart => exact ⟨0, [], rfl, Nat.zero_le _, World.ownsRow_nil _ _ _ _, hG, Below.refl _ _⟩
  case round =>
    clear hG
    obtain ⟨i, acc, rfl, hin, how, hgo, hbel⟩ := hrel
    obtain ⟨Ao, co, rfl, ho1, ho2, ho3⟩ := own_form how
    have hal : acc.length ≤ 96 * n := by
      have := congrArg List.length hgo.out
      rw [List.length_append] at this
      omega
    obtain ⟨k, hk⟩ : ∃ k, Hid (acc.length = k) := ⟨_, rfl⟩
    rw [hk.out] at hal how ho1 ho2 ⊢
    have hz := hbel.size
    by_cases hlt : i < n
    · have hil : i < l.length := by rw [hn.out]; exact hlt
      obtain ⟨b, off, rfl, hbs, c0, c1⟩ := rn_at (hrh.out.of_below (Nat.le_refl _) hbel) hil
      rw [List.drop_eq_getElem_cons hil] at hgo
      have hIr := hI.out l[i] (List.getElem_mem hil)
      have hler := hle.out l[i] (List.getElem_mem hil)
      generalize l[i] = r at *
      obtain ⟨p, q⟩ := r
      simp only at c0 c1 hIr hler
      have hO := fun W => ref05_of L p q W (by omega) (by omega)
      have hoB : ofB L p q = true := decide_eq_true ⟨h1, h2, hIr.1, hler, hIr.2⟩
      have hoL : ofL L p q = tilesF L p q := by unfold ofL; rw [if_pos hoB]
      have hoN := ofL_length L p q
      have hgo2 : Hid ((acc ++ ofL L p q) ++ layR L (l.drop (i + 1)) = G) := by show _ = _; rw [← hgo.out, hoL, List.append_assoc]; rfl
      rw [hoB] at hO
      generalize ofL L p q = ol at *
      replace hO := hide hO
      have how := hide how
      have hbel := hide hbel
      have hring := hide (ic_one ol)
      clear hgo hoB hoL
      go_wp2_with fail
      go_region_with (go_at_call 19; (with_reducible refine (hO.out _).mono ?_); rintro e w2 ⟨vg, rfl, hvg, hb2⟩; obtain ⟨Ag, cg, rfl, hg1, hg2, hg3, hrg⟩ := hvg; have how2 := hide (own_kept1 (w := wr) how.out ((Below.refl _ _).drew.trans hb2)); have hz2 : w.heap.size ≤ w2.heap.size := Nat.le_trans hz hb2.size; have hb2 := hide hb2; have hrg := hide hrg)
      all_goals
        go_wp2_with (at_builtin; refine wpList_app elInt rfl (.tmp 30) (.tmp 31) rfl w.heap.size _ _ _ rfl how2.out Ag ol.length cg (ic ol) rfl hrg.out (fun i _ => hring.out i) (by omega) hz2 hg1 ?_; intro v3 w3 how3 hb3 hgr3 hat3; have how3 := hide how3; have hb3 := hide hb3; clear hgr3 hat3)
        go_roundw
        case rel => exact ⟨i + 1, acc ++ ol, rfl, by omega, own_app hk.out how3.out, hgo2, (hbel.out.trans (((Below.refl _ _).drew.trans hb2.out).mono hz)).trans hb3.out⟩
        case measure => simp [intOf]; omega
    · have hres : Hid (acc = G) := by show _ = _; rw [← hgo.out, List.drop_of_length_le (by rw [hn.out]; omega)]; simp [layR]
      have how := hide how
      have hbel := hide hbel
      go_wp2_with fail
      go_ret
      exact ⟨_, rfl, by rw [← hres.out]; exact own_its hk.out how.out, hbel.out⟩
end Go.Proofs.Ytbibchdjojmpaaa

/- The walks of layer 5's reference, on: the runs of nodes, Join, Rest, Right, Holds, Count. By the prover of this repo. -/
import Derived.Test.YtbibchdjojmpaaaTileRX
import Derived.Test.YtbibchdjojmpaaaTileHW
namespace Go.Proofs.Ytbibchdjojmpaaa
open Go.RowKit
open TwigM TileM

theorem withGo_length : ∀ (l ah be : List Run) (x : Run), (withGo ah be x l).length ≤ ah.length + be.length + 1 + l.length
  | [], ah, be, x => by rw [withGo]; simp; omega
  | r :: l, ah, be, x => by
    rw [withGo]
    have h1 := withGo_length l (ah ++ [r]) be x
    have h2 := withGo_length l ah (be ++ [r]) x
    have h3 := withGo_length l ah be (if r.1 < x.1 then r.1 else x.1, if x.2 < r.2 then r.2 else x.2)
    simp only [List.length_append, List.length_cons, List.length_nil] at h1 h2 h3 ⊢
    split
    · omega
    · split <;> omega
theorem runsGo_length (L : Int) : ∀ (l : List Int) (out : List Run), (runsGo L out l).length ≤ out.length + l.length
  | [], out => by simp [runsGo]
  | t :: r, out => by
    have h1 := runsGo_length L r (withF out (lo L t, hi L t))
    have h2 := withGo_length out [] [] (lo L t, hi L t)
    rw [runsGo]
    unfold withF at h1 ⊢
    simp only [List.length_nil, List.length_cons] at h1 h2 ⊢
    omega
theorem runsGo_snoc (L : Int) : ∀ (l : List Int) (out : List Run) (t : Int), runsGo L out (l ++ [t]) = withF (runsGo L out l) (lo L t, hi L t)
  | [], out, t => rfl
  | x :: r, out, t => by rw [List.cons_append, runsGo, runsGo, runsGo_snoc L r]
/-- What the reference's runs tells: all nodes, up to the first that is none; whether all are. -/
def runL (L : Int) (l : List Int) : List Run := if l.all (rightB L) = true then runsGo L [] l else []

set_option maxRecDepth 100000 in
set_option maxHeartbeats 4000000 in
theorem ref05_runs (L : Int) (A : Option Addr) (c : Nat) (l : List Int) (w : World) (hr : Rd w A l.length 1 (ic l)) (hl : l.length ≤ 10000) (hwf : ItWf l) :
    Calls Try.prog 50 #[.int .i64 L, .slice A l.length c] w fun e w' => ∃ v, e = .returned (.tuple #[v, .bool (allB L l)]) ∧ Rns w' v (runL L l) ∧ Below w.heap.size w w' := by
  have hG : Hid ((if (l.drop 0).all (rightB L) = true then runsGo L (runsGo L [] (l.take 0)) (l.drop 0) else []) = runL L l) := by show _ = _; rw [List.drop_zero]; rfl
  have hQ : Hid (((l.drop 0).all (rightB L) && decide (1 ≤ L ∧ L ≤ 48)) = allB L l) := by show _ = _; rw [List.drop_zero]; rfl
  generalize runL L l = G at *
  generalize allB L l = q at *
  obtain ⟨n, hn⟩ : ∃ n, Hid (l.length = n) := ⟨_, rfl⟩
  have hrh := hide hr
  have hlh := hide hl
  rw [hn.out] at hl ⊢
  have hwf := hide hwf
  have hU : Hid (∀ W, Calls Try.prog 41 #[.int .i64 L] W fun e w' => e = .returned (.bool (decide (1 ≤ L ∧ L ≤ 48))) ∧ W = w') := fun W => by
    by_cases h : 1 ≤ L ∧ L ≤ 48
    · rw [decide_eq_true h]; exact ris_yes L W h.1 h.2
    · rw [decide_eq_false h]; exact ris_no L W h
  generalize hu : decide (1 ≤ L ∧ L ≤ 48) = u at *
  clear hr
  go_enter Try.func50, Try.ntmps50
  go_wp2_with fail
  go_loopw [6, 7] (fun out idx wr => ∃ (i : Nat), idx = .int .i64 i ∧ i ≤ n ∧ (∀ t ∈ l.take i, Nd L t) ∧ Rns wr out (runsGo L [] (l.take i)) ∧ Hid ((if (l.drop i).all (rightB L) = true then runsGo L (runsGo L [] (l.take i)) (l.drop i) else []) = G) ∧ Hid (((l.drop i).all (rightB L) && u) = q) ∧ Below w.heap.size w wr) (fun _ idx _ => n - (intOf idx).toNat)
  case atStart => exact ⟨0, rfl, Nat.zero_le _, (fun t h => by simp at h), Rns.nil _, hG, hQ, Below.refl _ _⟩
  case round =>
    clear hG hQ
    obtain ⟨i, rfl, hin, hN, hout, hgo, hq, hbel⟩ := hrel
    have hok := runs_ok (L := L) hN
    have hol := runsGo_length L (l.take i) []
    rw [List.length_take, List.length_nil] at hol
    obtain ⟨Ao, co, rfl, ho1, ho2, ho3, hor⟩ := hout
    by_cases hlt : i < n
    · have hil : i < l.length := by rw [hn.out]; exact hlt
      obtain ⟨b, off, rfl, hbs, hc⟩ := it_at (hrh.out.of_below (Nat.le_refl _) hbel) hil
      have htk : l.take (i + 1) = l.take i ++ [l[i]] := List.take_succ_eq_append_getElem hil
      have hsnoc := runsGo_snoc L (l.take i) [] l[i]
      rw [← htk] at hsnoc
      have hw := hwf.out l[i] (List.getElem_mem hil)
      rw [List.drop_eq_getElem_cons hil, List.all_cons] at hgo hq
      have hN2 : Nd L l[i] → ∀ t ∈ l.take (i + 1), Nd L t := fun h t ht => by
        rw [htk] at ht
        rcases List.mem_append.1 ht with ht | ht
        · exact hN t ht
        · rw [List.mem_singleton.1 ht]; exact h
      have hE := fun W => rends_c L l[i] W hw.2
      unfold endsF at hE
      generalize l[i] = t at *
      cases hrb : rightB L t
      · rw [hrb, if_neg (by decide)] at hE
        rw [hrb, Bool.false_and] at hgo hq
        rw [Bool.false_and] at hq
        rw [if_neg (by decide)] at hgo
        replace hE := hide hE
        have hbel := hide hbel
        clear hor hsnoc hN2 htk
        go_wp2_with (go_at_call 38; refine (hE.out _).mono ?_; rintro e w1 ⟨rfl, rfl⟩)
        go_ret2
        exact ⟨_, by rw [← hq.out]; rfl, by rw [← hgo.out]; exact Rns.nil _, hbel.out⟩
      · rw [hrb, if_pos rfl] at hE
        rw [hrb, Bool.true_and] at hgo hq
        have hR := right_iff.1 hrb
        have htN : Nd L t := ⟨hR.1, hR.2.1, hR.2.2.1, hR.2.2.2⟩
        have hnr := node_range htN
        have hle := lo_le_hi htN
        have hpw := pw_le48 hR.2.1
        change ∀ W : World, Calls _ _ _ _ fun e w' => e = .returned (.tuple #[.int .i64 (lo L t), .int .i64 (hi L t), .bool true]) ∧ W = w' at hE
        have hW := fun W (h : Rd W Ao (runsGo L [] (l.take i)).length 2 (rnc (runsGo L [] (l.take i)))) => ref05_with Ao co (runsGo L [] (l.take i)) (lo L t, hi L t) W h (by omega) (fun r hr => by have := hok.2.2 r hr; have := hok.1.le r hr; exact ⟨by omega, by omega, by omega, by omega⟩) ⟨by simp only []; omega, by simp only []; omega, by simp only []; omega, by simp only []; omega⟩
        rw [← hsnoc] at hW
        have hgo2 : Hid ((if (l.drop (i + 1)).all (rightB L) = true then runsGo L (runsGo L [] (l.take (i + 1))) (l.drop (i + 1)) else []) = G) := by show _ = _; rw [hsnoc]; exact hgo.out
        have hN3 := hide (hN2 htN)
        have hW := hW _ hor
        generalize lo L t = p at *
        generalize hi L t = r at *
        replace hE := hide hE
        replace hW := hide hW
        have hbel := hide hbel
        clear hor hN2 htk hgo hsnoc
        go_wp2_with (first
          | (go_at_call 38; refine (hE.out _).mono ?_; rintro e w1 ⟨rfl, rfl⟩)
          | (go_at_call 65; refine hW.out.mono ?_; rintro e w1 ⟨v1, rfl, hv1, hb1⟩; have hv1 := hide hv1; have hb1 := hide hb1))
        go_roundw
        case rel => exact ⟨i + 1, rfl, by omega, hN3.out, hv1.out, hgo2, hq, hbel.out.trans (hb1.out.mono hbel.out.size)⟩
        case measure => simp [intOf]; omega
    · have hd : l.drop i = [] := List.drop_of_length_le (by rw [hn.out]; omega)
      rw [hd, List.all_nil] at hgo hq
      rw [Bool.true_and] at hq
      rw [if_pos rfl] at hgo
      have hor := hide (show Rns wr _ _ from ⟨Ao, co, rfl, ho1, ho2, ho3, hor⟩)
      have hbel := hide hbel
      go_wp2_with (go_at_call 41; refine (hU.out _).mono ?_; rintro e w1 ⟨rfl, rfl⟩)
      go_ret2
      exact ⟨_, by rw [← hq.out]; rfl, by rw [← hgo.out]; exact hor.out, hbel.out⟩
end Go.Proofs.Ytbibchdjojmpaaa

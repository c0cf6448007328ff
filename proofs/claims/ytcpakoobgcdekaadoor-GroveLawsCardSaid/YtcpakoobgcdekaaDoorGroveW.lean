/- The walks of layer 28: the way up. By the prover of this repo. -/
import Derived.Test.YtcpakoobgcdekaaDoorInts
import Derived.Test.YtcpakoobgcdekaaDoorGroveM
import Derived.OwnWalk
namespace Go.Proofs.YtcpakoobgcdekaaDoor
open Go.RowKit

def slLen : Value → Nat | .slice _ n _ => n | _ => 0
theorem up_step {p : List Int} {m k : Nat} (hk : k < p.length) : upF p (m + 1) (k : Int) = if p[k] = -1 then some [(k : Int)] else if p[k] < 0 ∨ (p.length : Int) ≤ p[k] then none else (upF p m p[k]).map ((k : Int) :: ·) := by
  rw [upF_succ]
  simp [hk]
theorem map_app (o : Option (List Int)) (acc : List Int) (k : Int) : (o.map (k :: ·)).map (acc ++ ·) = o.map ((acc ++ [k]) ++ ·) := by cases o <;> simp

set_option maxRecDepth 100000 in
set_option maxHeartbeats 1000000 in
theorem grove_up (A : Option Addr) (c : Nat) (p : List Int) (i : Nat) (w : World) (hr : Rd w A p.length 1 (ic p)) (hn : p.length ≤ 1000) (hi : i < p.length) :
    Calls Tryd.prog 57 #[.slice A p.length c, .int .i64 i] w fun e w' => ∃ v, e = .returned (.tuple #[v, .bool (upF p p.length i).isSome]) ∧ Its w' v ((upF p p.length i).getD []) ∧ Below w.heap.size w w' := by
  obtain ⟨G, hG⟩ : ∃ G, Hid (upF p p.length i = G) := ⟨_, rfl⟩
  rw [hG.out]
  obtain ⟨n, hnn⟩ : ∃ n, Hid (p.length = n) := ⟨_, rfl⟩
  have hrH := hide hr
  rw [hnn.out] at hn hi hG ⊢
  clear hr
  go_enter Tryd.func57, Tryd.ntmps57
  go_wp2_with fail
  go_step3
  go_wp2_with fail
  go_step3
  go_wp2_with fail
  go_loopw [1, 6] (fun x way wr => ∃ (k : Nat) (acc : List Int), x = .int .i64 k ∧ k < n ∧ acc.length ≤ n ∧ wr.ownsRow w.heap.size 3 1 way acc.length (iv acc) ∧ Hid ((upF p (n - acc.length) k).map (acc ++ ·) = G) ∧ Below w.heap.size w wr) (fun _ way _ => n - slLen way)
  case atStart => exact ⟨i, [], rfl, hi, Nat.zero_le _, World.ownsRow_nil _ _ _ _, by show _ = _; rw [← hG.out]; simp, Below.refl _ _⟩
  case round =>
    clear hG
    obtain ⟨k, acc, rfl, hk, hacc, how, hgo, hbel⟩ := hrel
    obtain ⟨Ao, co, rfl, ho1, ho2, ho3⟩ := own_form how
    obtain ⟨q, hq⟩ : ∃ q, Hid (acc.length = q) := ⟨_, rfl⟩
    rw [hq.out] at hacc how hgo ho1 ho2 ⊢
    by_cases hfull : q = n
    · subst hfull
      have hres : Hid (none = G) := by show _ = _; rw [← hgo.out, Nat.sub_self]; rfl
      have hbel := hide hbel
      go_wp2_with fail
      try rw [Exit.noGoto_ret]
      go_ret2
      exact ⟨_, by rw [← hres.out]; rfl, by rw [← hres.out]; exact Its.nil _, hbel.out⟩
    · have hkl : k < p.length := by rw [hnn.out]; exact hk
      obtain ⟨b, off, rfl, hb, hc⟩ := it_at (hrH.out.of_below (Nat.le_refl _) hbel) hkl
      obtain ⟨m, hm⟩ : ∃ m, n - q = m + 1 := ⟨n - q - 1, by omega⟩
      rw [hm] at hgo
      have hst := up_step (m := m) hkl
      rw [hnn.out] at hst
      generalize p[k] = y at *
      have hz := hbel.size
      have how := hide how
      have hkeep : ∀ w1, Below w.heap.size wr w1 → w1.cell? ⟨b, off + k, none⟩ = some (.int .i64 y) := fun w1 h => (h.cell (p := ⟨b, off + k, none⟩) (by
        have h0 := hrH.out (by rw [hnn.out]; omega)
        obtain ⟨b0, o0, e0, hb0, _⟩ := h0
        cases e0
        exact hb0)).trans hc
      have hkeep := hide hkeep
      have hbelH := hide hbel
      clear hbel hc
      by_cases hy1 : y = -1
      · subst hy1
        rw [if_pos rfl] at hst
        have hres : Hid (some (acc ++ [(k : Int)]) = G) := by show _ = _; rw [← hgo.out, hst]; rfl
        clear hst hgo
        go_wp2_with (at_builtin; refine wpList_app1 elInt rfl (.tmp 13) (.tmp 15) rfl w.heap.size _ _ _ [.int .i64 (k : Int)] 3 rfl how.out rfl rfl (one1 rfl) (by omega) hz ?_; intro v1 w1 how1 hb1 hgr1 hat1; have hcy := hkeep.out w1 hb1; have how1 := hide how1; have hb1 := hide hb1; clear hgr1 hat1)
        try rw [Exit.noGoto_ret]
        go_ret2
        exact ⟨_, by rw [← hres.out]; rfl, by rw [← hres.out]; exact own_its (l := acc ++ [(k : Int)]) (n := q + 1) (by simp [hq.out]) (by rw [iv_snoc]; exact how1.out), hbelH.out.trans hb1.out⟩
      · rw [if_neg hy1] at hst
        by_cases hy2 : y < 0 ∨ (n : Int) ≤ y
        · rw [if_pos hy2] at hst
          have hres : Hid (none = G) := by show _ = _; rw [← hgo.out, hst]; rfl
          clear hst hgo
          have hfin : ∀ w1, Below w.heap.size w w1 → ∃ v, Ending.returned (.tuple #[.slice none 0 0, .bool false]) = .returned (.tuple #[v, .bool G.isSome]) ∧ Its w1 v (G.getD []) ∧ Below w.heap.size w w1 := fun w1 h => ⟨_, by rw [← hres.out]; rfl, by rw [← hres.out]; exact Its.nil _, h⟩
          have hfin := hide hfin
          by_cases hy3 : y < 0
          · clear hy2
            go_wp2_with (at_builtin; refine wpList_app1 elInt rfl (.tmp 13) (.tmp 15) rfl w.heap.size _ _ _ [.int .i64 (k : Int)] 3 rfl how.out rfl rfl (one1 rfl) (by omega) hz ?_; intro v1 w1 how1 hb1 hgr1 hat1; have hcy := hkeep.out w1 hb1; have how1 := hide how1; have hb1 := hide hb1; clear hgr1 hat1)
            try rw [Exit.noGoto_ret]
            go_ret2
            exact hfin.out _ (hbelH.out.trans hb1.out)
          · have hy4 : (n : Int) ≤ y := by omega
            clear hy2
            go_wp2_with (at_builtin; refine wpList_app1 elInt rfl (.tmp 13) (.tmp 15) rfl w.heap.size _ _ _ [.int .i64 (k : Int)] 3 rfl how.out rfl rfl (one1 rfl) (by omega) hz ?_; intro v1 w1 how1 hb1 hgr1 hat1; have hcy := hkeep.out w1 hb1; have how1 := hide how1; have hb1 := hide hb1; clear hgr1 hat1)
            try rw [Exit.noGoto_ret]
            go_ret2
            exact hfin.out _ (hbelH.out.trans hb1.out)
        · rw [if_neg hy2] at hst
          have hy3 : 0 ≤ y := by omega
          have hy4 : y < n := by omega
          obtain ⟨y, rfl⟩ := Int.eq_ofNat_of_zero_le hy3
          have hgo2 : Hid ((upF p m (y : Int)).map ((acc ++ [(k : Int)]) ++ ·) = G) := by show _ = _; rw [← hgo.out, hst, map_app]
          clear hst hgo hy2 hy1
          go_wp2_with (at_builtin; refine wpList_app1 elInt rfl (.tmp 13) (.tmp 15) rfl w.heap.size _ _ _ [.int .i64 (k : Int)] 3 rfl how.out rfl rfl (one1 rfl) (by omega) hz ?_; intro v1 w1 how1 hb1 hgr1 hat1; have hcy := hkeep.out w1 hb1; have how1 := hide how1; have hb1 := hide hb1; clear hgr1 hat1)
          go_roundw
          case rel => exact ⟨y, acc ++ [(k : Int)], rfl, by omega, by rw [List.length_append, hq.out]; simp; omega, by rw [iv_snoc, List.length_append, hq.out]; exact how1.out, by rw [List.length_append, hq.out, show n - (q + [(k : Int)].length) = m by simp; omega]; exact hgo2, hbelH.out.trans hb1.out⟩
          case measure =>
            obtain ⟨A9, c9, rfl, _⟩ := own_form how1.out
            simp [slLen]; omega
set_option maxRecDepth 100000 in
set_option maxHeartbeats 1000000 in
theorem ref_way2 (A : Option Addr) (c : Nat) (p : List Int) (i : Nat) (w : World) (hr : Rd w A p.length 1 (ic p)) (hn : p.length ≤ 1000) (hi : i < p.length) :
    Calls Tryd.prog 26 #[.slice A p.length c, .int .i64 i] w fun e w' => ∃ v, e = .returned (.tuple #[v, .bool (upF p 48 i).isSome]) ∧ w'.ownsRow w.heap.size 3 1 v ((upF p 48 i).getD []).length (iv ((upF p 48 i).getD [])) ∧ Below w.heap.size w w' := by
  obtain ⟨G, hG⟩ : ∃ G, Hid (upF p 48 i = G) := ⟨_, rfl⟩
  rw [hG.out]
  obtain ⟨n, hnn⟩ : ∃ n, Hid (p.length = n) := ⟨_, rfl⟩
  have hrH := hide hr
  rw [hnn.out] at hn hi ⊢
  clear hr
  go_enter Tryd.func26, Tryd.ntmps26
  go_wp2_with fail
  go_loopw [1, 6] (fun x way wr => ∃ (k : Nat) (acc : List Int), x = .int .i64 k ∧ k < n ∧ acc.length ≤ 48 ∧ wr.ownsRow w.heap.size 3 1 way acc.length (iv acc) ∧ Hid ((upF p (48 - acc.length) k).map (acc ++ ·) = G) ∧ Below w.heap.size w wr) (fun _ way _ => 48 - slLen way)
  case atStart => exact ⟨i, [], rfl, hi, Nat.zero_le _, World.ownsRow_nil _ _ _ _, by show _ = _; rw [← hG.out]; simp, Below.refl _ _⟩
  case round =>
    clear hG
    obtain ⟨k, acc, rfl, hk, hacc, how, hgo, hbel⟩ := hrel
    obtain ⟨Ao, co, rfl, ho1, ho2, ho3⟩ := own_form how
    obtain ⟨q, hq⟩ : ∃ q, Hid (acc.length = q) := ⟨_, rfl⟩
    rw [hq.out] at hacc how hgo ho1 ho2 ⊢
    by_cases hfull : q = 48
    · subst hfull
      have hres : Hid (none = G) := by show _ = _; rw [← hgo.out, Nat.sub_self]; rfl
      have hbel := hide hbel
      go_wp2_with fail
      try rw [Exit.noGoto_ret]
      go_ret2
      exact ⟨_, by rw [← hres.out]; rfl, by rw [← hres.out]; exact World.ownsRow_nil _ _ _ _, hbel.out⟩
    · have hkl : k < p.length := by rw [hnn.out]; exact hk
      obtain ⟨b, off, rfl, hb, hc⟩ := it_at (hrH.out.of_below (Nat.le_refl _) hbel) hkl
      obtain ⟨m, hm⟩ : ∃ m, 48 - q = m + 1 := ⟨48 - q - 1, by omega⟩
      rw [hm] at hgo
      have hst := up_step (m := m) hkl
      rw [hnn.out] at hst
      generalize p[k] = y at *
      have hz := hbel.size
      have how := hide how
      have hkeep : ∀ w1, Below w.heap.size wr w1 → w1.cell? ⟨b, off + k, none⟩ = some (.int .i64 y) := fun w1 h => (h.cell (p := ⟨b, off + k, none⟩) (by
        have h0 := hrH.out (by rw [hnn.out]; omega)
        obtain ⟨b0, o0, e0, hb0, _⟩ := h0
        cases e0
        exact hb0)).trans hc
      have hkeep := hide hkeep
      have hbelH := hide hbel
      clear hbel hc
      by_cases hy1 : y = -1
      · subst hy1
        rw [if_pos rfl] at hst
        have hres : Hid (some (acc ++ [(k : Int)]) = G) := by show _ = _; rw [← hgo.out, hst]; rfl
        clear hst hgo
        go_wp2_with (at_builtin; refine wpList_app1 elInt rfl (.tmp 10) (.tmp 12) rfl w.heap.size _ _ _ [.int .i64 (k : Int)] 3 rfl how.out rfl rfl (one1 rfl) (by omega) hz ?_; intro v1 w1 how1 hb1 hgr1 hat1; have hcy := hkeep.out w1 hb1; have how1 := hide how1; have hb1 := hide hb1; clear hgr1 hat1)
        try rw [Exit.noGoto_ret]
        go_ret2
        exact ⟨_, by rw [← hres.out]; rfl, by rw [← hres.out]; show World.ownsRow _ _ _ _ _ (acc ++ [(k : Int)]).length (iv (acc ++ [(k : Int)])); rw [iv_snoc, List.length_append, hq.out]; exact how1.out, hbelH.out.trans hb1.out⟩
      · rw [if_neg hy1] at hst
        by_cases hy2 : y < 0 ∨ (n : Int) ≤ y
        · rw [if_pos hy2] at hst
          have hres : Hid (none = G) := by show _ = _; rw [← hgo.out, hst]; rfl
          clear hst hgo
          have hfin : ∀ w1, Below w.heap.size w w1 → ∃ v, Ending.returned (.tuple #[.slice none 0 0, .bool false]) = .returned (.tuple #[v, .bool G.isSome]) ∧ w1.ownsRow w.heap.size 3 1 v (G.getD []).length (iv (G.getD [])) ∧ Below w.heap.size w w1 := fun w1 h => ⟨_, by rw [← hres.out]; rfl, by rw [← hres.out]; exact World.ownsRow_nil _ _ _ _, h⟩
          have hfin := hide hfin
          by_cases hy3 : y < 0
          · clear hy2
            go_wp2_with (at_builtin; refine wpList_app1 elInt rfl (.tmp 10) (.tmp 12) rfl w.heap.size _ _ _ [.int .i64 (k : Int)] 3 rfl how.out rfl rfl (one1 rfl) (by omega) hz ?_; intro v1 w1 how1 hb1 hgr1 hat1; have hcy := hkeep.out w1 hb1; have how1 := hide how1; have hb1 := hide hb1; clear hgr1 hat1)
            try rw [Exit.noGoto_ret]
            go_ret2
            exact hfin.out _ (hbelH.out.trans hb1.out)
          · have hy4 : (n : Int) ≤ y := by omega
            clear hy2
            go_wp2_with (at_builtin; refine wpList_app1 elInt rfl (.tmp 10) (.tmp 12) rfl w.heap.size _ _ _ [.int .i64 (k : Int)] 3 rfl how.out rfl rfl (one1 rfl) (by omega) hz ?_; intro v1 w1 how1 hb1 hgr1 hat1; have hcy := hkeep.out w1 hb1; have how1 := hide how1; have hb1 := hide hb1; clear hgr1 hat1)
            try rw [Exit.noGoto_ret]
            go_ret2
            exact hfin.out _ (hbelH.out.trans hb1.out)
        · rw [if_neg hy2] at hst
          have hy3 : 0 ≤ y := by omega
          have hy4 : y < n := by omega
          obtain ⟨y, rfl⟩ := Int.eq_ofNat_of_zero_le hy3
          have hgo2 : Hid ((upF p m (y : Int)).map ((acc ++ [(k : Int)]) ++ ·) = G) := by show _ = _; rw [← hgo.out, hst, map_app]
          clear hst hgo hy2 hy1
          go_wp2_with (at_builtin; refine wpList_app1 elInt rfl (.tmp 10) (.tmp 12) rfl w.heap.size _ _ _ [.int .i64 (k : Int)] 3 rfl how.out rfl rfl (one1 rfl) (by omega) hz ?_; intro v1 w1 how1 hb1 hgr1 hat1; have hcy := hkeep.out w1 hb1; have how1 := hide how1; have hb1 := hide hb1; clear hgr1 hat1)
          go_roundw
          case rel => exact ⟨y, acc ++ [(k : Int)], rfl, by omega, by rw [List.length_append, hq.out]; simp; omega, by rw [iv_snoc, List.length_append, hq.out]; exact how1.out, by rw [List.length_append, hq.out, show 48 - (q + [(k : Int)].length) = m by simp; omega]; exact hgo2, hbelH.out.trans hb1.out⟩
          case measure =>
            obtain ⟨A9, c9, rfl, _⟩ := own_form how1.out
            simp [slLen]; omega
theorem ref_way (A : Option Addr) (c : Nat) (p : List Int) (i : Nat) (w : World) (hr : Rd w A p.length 1 (ic p)) (hn : p.length ≤ 1000) (hi : i < p.length) :
    Calls Tryd.prog 26 #[.slice A p.length c, .int .i64 i] w fun e w' => ∃ v, e = .returned (.tuple #[v, .bool (upF p 48 i).isSome]) ∧ Its w' v ((upF p 48 i).getD []) ∧ Below w.heap.size w w' := by
  refine (ref_way2 A c p i w hr hn hi).mono ?_
  rintro e w' ⟨v, rfl, h, hb⟩
  exact ⟨v, rfl, own_its rfl h, hb⟩
end Go.Proofs.YtcpakoobgcdekaaDoor

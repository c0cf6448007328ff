/- The walks of layer 5's reference, on: runs with one more. By the prover of this repo. -/
import Derived.Test.YtbibchdjojmpaaaTileRL
namespace Go.Proofs.Ytbibchdjojmpaaa
open Go.RowKit
open TwigM TileM

/-- A run's ends in bounds. -/
def RB (r : Run) : Prop := 0 ≤ r.1 ∧ r.1 ≤ 562949953421312 ∧ 0 ≤ r.2 ∧ r.2 ≤ 562949953421312
/-- Two owned slices lie in blocks of their own. -/
def Off (u v : Value) : Prop := ∀ g, u.ownBlock = some g → v.ownBlock ≠ some g
theorem Off.symm {u v : Value} (h : Off u v) : Off v u := fun g hv hu => h g hu hv
theorem off_after {w : World} {base : Nat} {e : TypeId} {size n k : Nat} {u v u' : Value} {xs : List Value} (h : Off u v) (hv : w.ownsRow base e size v n xs) (hk : w.heap.size < k + 1) (hat : u'.ownBlock = u.ownBlock ∨ u'.ownBlock = some k) : Off u' v := fun g hg hvg => by
  have h1 := (hv.lt g hvg).2
  rcases hat with hat | hat
  · exact h g (by rw [← hat]; exact hg) hvg
  · rw [hat] at hg
    injection hg with hg
    omega
theorem own_off {w w' : World} {base : Nat} {e : TypeId} {size n : Nat} {u v : Value} {xs : List Value} (h : Off u v) (hv : w.ownsRow base e size v n xs) (hg : w.grownBy w' u.ownBlock) : w'.ownsRow base e size v n xs := by
  refine hv.kept hg ?_
  cases hvb : v.ownBlock with
  | none => exact .inl rfl
  | some g => exact .inr fun k => h g k.symm hvb

/-- Between two rounds. -/
def WRel (H n : Nat) (l G : List Run) (w : World) (av bv idx : Value) (wr : World) : Prop :=
  ∃ (i : Nat) (ah be : List Run) (u v : Int), idx = .int .i64 i ∧ i ≤ n ∧ ah.length ≤ i ∧ be.length ≤ i ∧ RB (u, v) ∧ Blk wr H 65 #[.int .i64 u, .int .i64 v] ∧
    wr.ownsRow (H + 1) 65 2 av ah.length (rnv ah) ∧ wr.ownsRow (H + 1) 65 2 bv be.length (rnv be) ∧ Off av bv ∧ Hid (withGo ah be (u, v) (l.drop i) = G) ∧ Below H w wr

theorem own_rapp1 {w : World} {base k : Nat} {v : Value} {acc : List Run} {p q : Int} (hk : acc.length = k) (h : w.ownsRow base 65 2 v (k + 1) (rnv acc ++ [.int .i64 p, .int .i64 q])) : w.ownsRow base 65 2 v (acc ++ [(p, q)]).length (rnv (acc ++ [(p, q)])) := by
  rw [List.length_append, hk, rnv_snoc]
  exact h

theorem own_its' {w : World} {base k c : Nat} {A : Option Addr} {be : List Run} (h : w.ownsRow base 65 2 (.slice A k c) k (rnv be)) (hk : be.length = k) : Rd w A k 2 (rnc be) := by
  obtain ⟨A', c', e, _, _, _, hr⟩ := own_rns hk h
  injection e with e1 e2 e3
  subst e1
  rw [hk] at hr
  exact hr
set_option maxRecDepth 100000 in
set_option maxHeartbeats 4000000 in
theorem ref05_with (A : Option Addr) (c : Nat) (l : List Run) (x : Run) (w : World) (hr : Rd w A l.length 2 (rnc l)) (hl : l.length ≤ 100000) (hlB : ∀ r ∈ l, RB r) (hx : RB x) :
    Calls Try.prog 65 #[.slice A l.length c, rv x] w fun e w' => ∃ v, e = .returned v ∧ Rns w' v (withF l x) ∧ Below w.heap.size w w' := by
  obtain ⟨u0, v0⟩ := x
  have hG : Hid (withGo [] [] (u0, v0) (l.drop 0) = withF l (u0, v0)) := by show _ = _; rw [List.drop_zero]; rfl
  generalize withF l (u0, v0) = G at *
  obtain ⟨n, hn⟩ : ∃ n, Hid (l.length = n) := ⟨_, rfl⟩
  have hrh := hide hr
  have hlB := hide hlB
  rw [hn.out] at hl ⊢
  have hB0 : Hid (Blk (w.alloc (.cells #[.int .i64 u0, .int .i64 v0] 65)) w.heap.size 65 #[.int .i64 u0, .int .i64 v0]) := Blk.made _ _ _
  have hbel0 := hide (balloc0 w (.cells #[.int .i64 u0, .int .i64 v0] 65))
  clear hr
  go_enter Try.func65, Try.ntmps65
  go_wp2_with fail
  go_loopw [5, 6, 7] (fun av bv idx wr => WRel w.heap.size n l G w av bv idx wr) (fun _ _ idx _ => n - (intOf idx).toNat)
  case atStart => exact ⟨0, [], [], u0, v0, rfl, Nat.zero_le _, Nat.le_refl _, Nat.le_refl _, hx, hB0.out, World.ownsRow_nil _ _ _ _, World.ownsRow_nil _ _ _ _, (fun g h => by cases h), hG, hbel0.out⟩
  case round =>
    clear hG hB0 hbel0 hx
    obtain ⟨i, ah, be, u, v, rfl, hin, hah, hbe, hB, hblk, hoa, hob, hoff, hgo, hbel⟩ := hrel
    obtain ⟨Aa, ca, rfl, ha1, ha2, ha3⟩ := own_form hoa
    obtain ⟨Ab, cb, rfl, hb1, hb2, hb3⟩ := own_form hob
    obtain ⟨ka, hka⟩ : ∃ k, Hid (ah.length = k) := ⟨_, rfl⟩
    obtain ⟨kb, hkb⟩ : ∃ k, Hid (be.length = k) := ⟨_, rfl⟩
    rw [hka.out] at hah hoa ha1 ha2 hoff ⊢
    rw [hkb.out] at hbe hob hb1 hb2 hoff ⊢
    have x0 := hblk.cell 0
    have x1 := hblk.cell 1
    simp only [List.getElem?_toArray, List.getElem?_cons_zero, List.getElem?_cons_succ] at x0 x1
    have f0 := hblk.free 0
    have f1 := hblk.free 1
    have hz := hblk.lt
    obtain ⟨b1, b2, b3, b4⟩ := hB
    simp only [] at b1 b2 b3 b4
    have hblk := hide hblk
    have hoff := hide hoff
    by_cases hlt : i < n
    · have hil : i < l.length := by rw [hn.out]; exact hlt
      obtain ⟨b, off, rfl, hbs, c0, c1⟩ := rn_at (hrh.out.of_below (Nat.le_refl _) hbel) hil
      rw [List.drop_eq_getElem_cons hil, withGo] at hgo
      have hrB := hlB.out l[i] (List.getElem_mem hil)
      generalize l[i] = r at *
      obtain ⟨p, q⟩ := r
      obtain ⟨d1, d2, d3, d4⟩ := hrB
      simp only [] at c0 c1 hgo d1 d2 d3 d4
      have hbel := hide hbel
      have hoa := hide hoa
      have hob := hide hob
      by_cases t1 : q + 1 < u
      · rw [if_pos t1] at hgo
        go_wp2_with fail
        go_quiet (fail)
        go_wp2_with (at_builtin; refine wpList_app1 elRun rfl (.tmp 23) (.tmp 28) rfl (w.heap.size + 1) _ _ _ [.int .i64 p, .int .i64 q] 65 rfl (own_drewN hoa.out nq) rfl rfl (one2 rfl rfl) (by omega) hz ?_; intro v3 w3 how3 hb3 hgr3 hat3; have how3 := hide how3; have hb3 := hide hb3; have hgr3 := hide hgr3; have hat3 := hide hat3)
        go_roundw
        case rel => exact ⟨i + 1, ah ++ [(p, q)], be, u, v, rfl, by omega, by rw [List.length_append, hka.out]; simp; omega, by rw [hkb.out]; omega, ⟨b1, b2, b3, b4⟩, (hblk.out.drewN nq).below hb3.out (by omega), own_rapp1 hka.out how3.out, by rw [hkb.out]; exact own_off hoff.out (own_drewN hob.out nq) hgr3.out, off_after hoff.out (own_drewN hob.out nq) (by simp; omega) hat3.out, hgo, (below_drewN hbel.out nq).trans (hb3.out.mono (by omega))⟩
        case measure => simp [intOf]; omega
      · rw [if_neg t1] at hgo
        by_cases t2 : v + 1 < p
        · rw [if_pos t2] at hgo
          go_wp2_with fail
          go_quiet (fail)
          generalize nq = n1 at *
          go_wp2_with fail
          go_quiet (fail)
          go_wp2_with (at_builtin; refine wpList_app1 elRun rfl (.tmp 39) (.tmp 44) rfl (w.heap.size + 1) _ _ _ [.int .i64 p, .int .i64 q] 65 rfl (own_drewN hob.out (n1 + nq)) rfl rfl (one2 rfl rfl) (by omega) hz ?_; intro v3 w3 how3 hb3 hgr3 hat3; have how3 := hide how3; have hb3 := hide hb3; have hgr3 := hide hgr3; have hat3 := hide hat3)
          go_roundw
          case rel => exact ⟨i + 1, ah, be ++ [(p, q)], u, v, rfl, by omega, by rw [hka.out]; omega, by rw [List.length_append, hkb.out]; simp; omega, ⟨b1, b2, b3, b4⟩, (hblk.out.drewN _).below hb3.out (by omega), by rw [hka.out]; exact own_off hoff.out.symm (own_drewN hoa.out _) hgr3.out, own_rapp1 hkb.out how3.out, (off_after hoff.out.symm (own_drewN hoa.out (n1 + nq)) (by simp; omega) hat3.out).symm, hgo, (below_drewN hbel.out _).trans (hb3.out.mono (by omega))⟩
          case measure => simp [intOf]; omega
        · rw [if_neg t2] at hgo
          by_cases t3 : p < u
          · rw [if_pos t3] at hgo
            by_cases t4 : v < q
            · rw [if_pos t4] at hgo
              go_wp2_with fail
              go_quiet (fail)
              generalize nq = n1 at *
              go_wp2_with fail
              go_quiet (fail)
              generalize nq = n2 at *
              go_wp2_with fail
              go_quiet (fail)
              generalize nq = n3 at *
              go_wp2_with fail
              go_quiet (fail)
              generalize nq = n4 at *
              go_wp2_with fail
              go_roundw
              case rel => exact ⟨i + 1, ah, be, p, q, rfl, by omega, by rw [hka.out]; omega, by rw [hkb.out]; omega, ⟨by simp only []; omega, by simp only []; omega, by simp only []; omega, by simp only []; omega⟩, ((hblk.out).set 0 (.int .i64 p)).set 1 (.int .i64 q), by rw [hka.out]; exact ownsRow_setCell_below (ownsRow_setCell_below (hoa.out) (Nat.lt_succ_self _) _) (Nat.lt_succ_self _) _, by rw [hkb.out]; exact ownsRow_setCell_below (ownsRow_setCell_below (hob.out) (Nat.lt_succ_self _) _) (Nat.lt_succ_self _) _, hoff.out, hgo, (below_drewN ((below_drewN hbel.out _).setCell (Nat.le_refl _) _) _).setCell (Nat.le_refl _) _⟩
              case measure => simp [intOf]; omega
            · rw [if_neg t4] at hgo
              go_wp2_with fail
              go_quiet (fail)
              generalize nq = n1 at *
              go_wp2_with fail
              go_quiet (fail)
              generalize nq = n2 at *
              go_wp2_with fail
              go_quiet (fail)
              generalize nq = n3 at *
              go_wp2_with fail
              go_quiet (fail)
              generalize nq = n4 at *
              go_wp2_with fail
              go_roundw
              case rel => exact ⟨i + 1, ah, be, p, v, rfl, by omega, by rw [hka.out]; omega, by rw [hkb.out]; omega, ⟨by simp only []; omega, by simp only []; omega, by simp only []; omega, by simp only []; omega⟩, (hblk.out).set 0 (.int .i64 p), by rw [hka.out]; exact ownsRow_setCell_below (hoa.out) (Nat.lt_succ_self _) _, by rw [hkb.out]; exact ownsRow_setCell_below (hob.out) (Nat.lt_succ_self _) _, hoff.out, hgo, below_drewN ((below_drewN hbel.out _).setCell (Nat.le_refl _) _) _⟩
              case measure => simp [intOf]; omega
          · rw [if_neg t3] at hgo
            by_cases t4 : v < q
            · rw [if_pos t4] at hgo
              go_wp2_with fail
              go_quiet (fail)
              generalize nq = n1 at *
              go_wp2_with fail
              go_quiet (fail)
              generalize nq = n2 at *
              go_wp2_with fail
              go_quiet (fail)
              generalize nq = n3 at *
              go_wp2_with fail
              go_quiet (fail)
              generalize nq = n4 at *
              go_wp2_with fail
              go_roundw
              case rel => exact ⟨i + 1, ah, be, u, q, rfl, by omega, by rw [hka.out]; omega, by rw [hkb.out]; omega, ⟨by simp only []; omega, by simp only []; omega, by simp only []; omega, by simp only []; omega⟩, (hblk.out).set 1 (.int .i64 q), by rw [hka.out]; exact ownsRow_setCell_below (hoa.out) (Nat.lt_succ_self _) _, by rw [hkb.out]; exact ownsRow_setCell_below (hob.out) (Nat.lt_succ_self _) _, hoff.out, hgo, (below_drewN hbel.out _).setCell (Nat.le_refl _) _⟩
              case measure => simp [intOf]; omega
            · rw [if_neg t4] at hgo
              go_wp2_with fail
              go_quiet (fail)
              generalize nq = n1 at *
              go_wp2_with fail
              go_quiet (fail)
              generalize nq = n2 at *
              go_wp2_with fail
              go_quiet (fail)
              generalize nq = n3 at *
              go_wp2_with fail
              go_quiet (fail)
              generalize nq = n4 at *
              go_wp2_with fail
              go_roundw
              case rel => exact ⟨i + 1, ah, be, u, v, rfl, by omega, by rw [hka.out]; omega, by rw [hkb.out]; omega, ⟨by simp only []; omega, by simp only []; omega, by simp only []; omega, by simp only []; omega⟩, hblk.out, by rw [hka.out]; exact hoa.out, by rw [hkb.out]; exact hob.out, hoff.out, hgo, below_drewN (hbel.out) _⟩
              case measure => simp [intOf]; omega
    · have hres : Hid (ah ++ [(u, v)] ++ be = G) := by show _ = _; rw [← hgo.out, List.drop_of_length_le (by rw [hn.out]; omega)]; rfl
      have hbel := hide hbel
      have hoa := hide hoa
      have hob := hide hob
      have hoba := hide (own_its' hob.out hkb.out)
      have hring := hide (rnc_one be)
      go_wp2_with (first
        | (at_builtin; refine wpList_app1 elRun rfl (.tmp 74) (.tmp 76) rfl (w.heap.size + 1) _ _ _ [.int .i64 u, .int .i64 v] 65 rfl hoa.out rfl rfl (one2 rfl rfl) (by omega) hz ?_; intro v3 w3 how3 hb3 hgr3 hat3; have hob3 := hide (own_its' (own_off hoff.out hob.out hgr3) hkb.out); have hz3 : w.heap.size + 1 ≤ w3.heap.size := Nat.le_trans hz hb3.size; have how3 := hide how3; have hb3 := hide hb3)
        | (at_builtin; refine wpList_app elRun rfl (.tmp 77) (.tmp 78) rfl (w.heap.size + 1) _ _ _ rfl how3.out Ab kb cb (rnc be) rfl hob3.out (fun i _ => hring.out i) (by omega) hz3 hb1 ?_; intro v4 w4 how4 hb4 hgr4 hat4; have how4 := hide how4; have hb4 := hide hb4))
      go_ret
      refine ⟨_, rfl, ?_, (hbel.out.trans (hb3.out.mono (by omega))).trans (hb4.out.mono (by omega))⟩
      rw [← hres.out]
      refine own_rns (base := w.heap.size + 1) (n := ka + 1 + kb) (by rw [List.length_append, List.length_append, hka.out, hkb.out]; rfl) ?_
      have h4 := how4.out
      rw [← hkb.out, rnv_range, hkb.out, ← rnv_snoc ah (u, v), ← rnv_append] at h4
      exact h4
end Go.Proofs.Ytbibchdjojmpaaa

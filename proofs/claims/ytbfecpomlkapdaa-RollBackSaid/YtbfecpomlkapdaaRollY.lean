/- The walks of layer 6, on: the reference's roll, a node's weight by a closure. By the prover of this repo. -/
import Derived.Test.YtbfecpomlkapdaaRollX
namespace Go.Proofs.Ytbfecpomlkapdaa
open Go.RowKit
open TwigM RollM

/-- The number before place i; 0 at the first. -/
def prevId (l : List Nd) : Nat → Int | 0 => 0 | k + 1 => (l.getD k (0, 0)).1
theorem right_pos {L x : Int} (h : rightB L x = true) : 1 ≤ x := (right_iff.1 h).2.2.1

set_option maxRecDepth 100000 in
set_option maxHeartbeats 2000000 in
theorem ref06_right (L : Int) (A : Option Addr) (c : Nat) (l : List Nd) (w : World) (hr : Rd w A l.length 2 (ndc l)) (hl : l.length ≤ 1000000) (hwf : NdWf l) :
    Calls Try.prog 49 #[.int .i64 L, .slice A l.length c] w fun e w' => e = .returned (.bool (rollB L l)) ∧ Below w.heap.size w w' := by
  unfold rollB
  generalize hG : rightGo L 0 l = G
  replace hG := hide hG
  have hT := fun (W : World) (h : Rd W A l.length 2 (ndc l)) => ref06_total A c l W h hl hwf
  have hU := fun W => ris_c L W
  generalize totF l = tt at hT ⊢
  obtain ⟨tn, tb⟩ := tt
  generalize uniB L = U at hU ⊢
  replace hU := hide hU
  obtain ⟨n, hn⟩ : ∃ n, Hid (l.length = n) := ⟨_, rfl⟩
  rw [hn.out] at hl
  have hrn : Hid (Rd w A l.length 2 (ndc l)) := hr
  rw [hn.out] at hT ⊢
  replace hT := hide hT
  have hrT : Hid (Rd w A n 2 (ndc l)) := by have := hr; rwa [hn.out] at this
  clear hr
  go_enter Try.func49, Try.ntmps49
  go_wp2_with fail
  go_loopw [5] (fun k wr => ∃ (i : Nat), i ≤ n ∧ k = .int .i64 i ∧ Hid (rightGo L (prevId l i) (l.drop i) = G) ∧ Below w.heap.size w wr) (fun k _ => n - (intOf k).toNat)
  case atStart => exact ⟨0, by omega, rfl, by show _ = _; rw [List.drop_zero]; exact hG.out, Below.refl _ _⟩
  case round =>
    obtain ⟨i, hi, rfl, hgo, hbel⟩ := hrel
    by_cases hlt : i < n
    · have hil : i < l.length := by rw [hn.out]; exact hlt
      obtain ⟨b, off, rfl, hb, c0, c1⟩ := rd_at (hrn.out.of_below (Nat.le_refl _) hbel) hil
      have hw := hwf l[i] (List.getElem_mem hil)
      have hnext : Hid (prevId l (i + 1) = l[i].1) := by show _ = _; simp [prevId, hil]
      have hprev : ∀ m, i = m + 1 → wr.cell? ⟨b, off + m * 2, none⟩ = some (.int .i64 (prevId l i)) := by
        intro m hm
        obtain ⟨b', off', e, _, d0, _⟩ := rd_at (hrn.out.of_below (Nat.le_refl _) hbel) (k := m) (by omega)
        injection e with e
        injection e with e1 e2
        subst e1 e2
        have hml : m < l.length := by omega
        have hpe : prevId l i = l[m].1 := by rw [hm]; simp [prevId, hml]
        rw [d0, hpe]
      have hprev := hide hprev
      rw [List.drop_eq_getElem_cons hil] at hgo
      have hp0 : Hid (i = 0 → prevId l i = 0) := fun h => by subst h; rfl
      generalize prevId l i = last at *
      generalize l[i] = p at *
      obtain ⟨x, y⟩ := p
      simp only at c0 c1 hw hnext
      obtain ⟨hx0, hx1, hy0, hy1⟩ := hw
      have hR := fun W => rright_c L x W hx1
      cases hrb : rightB L x
      · have hres : Hid (false = G) := by rw [← hgo.out, right_bad (.inr (.inl hrb))]; rfl
        rw [hrb] at hR
        replace hR := hide hR
        clear hrb hp0
        go_wp2_with fail
        refine wp_region_later (by kernel_rfl) (by kernel_rfl) ?_
        repeat (go_big_quiet_step (first | (go_at_call 28; exact calls_later_same (hR.out _)) | exact rfl))
        refine wpQuiet_nil ?_
        rintro _ ⟨e1, rfl⟩
        go_wp2_with fail
        go_ret
        exact ⟨by rw [← hres.out]; rfl, bthen hbel e1.property⟩
      · have hx2 := right_pos hrb
        rw [hrb] at hR
        replace hR := hide hR
        by_cases hy : y < 1
        · have hres : Hid (false = G) := by rw [← hgo.out, right_bad (.inr (.inr hy))]; rfl
          have hyd : decide (y < 1) = true := decide_eq_true hy
          clear hrb hp0
          go_wp2_with fail
          refine wp_region_later (by kernel_rfl) (by kernel_rfl) ?_
          repeat (go_big_quiet_step (first | (go_at_call 28; exact calls_later_same (hR.out _)) | exact rfl))
          refine wpQuiet_nil ?_
          rintro _ ⟨e1, rfl⟩
          go_wp2_with fail
          go_ret
          exact ⟨by rw [← hres.out]; rfl, bthen hbel e1.property⟩
        · have hyd : decide (y < 1) = false := decide_eq_false hy
          rcases Nat.eq_zero_or_pos i with hi0 | hi0
          · have hl0 := hp0.out hi0
            have hgo2 : Hid (rightGo L (prevId l (i + 1)) (l.drop (i + 1)) = G) := by
              rw [hnext.out, ← hgo.out]
              exact (right_on (L := L) (last := last) (p := (x, y)) (not_or.2 ⟨by simp only; omega, not_or.2 ⟨by rw [hrb]; simp, hy⟩⟩)).symm
            subst hi0
            simp only [Nat.zero_mul, Nat.add_zero] at c0 c1
            clear hrb hp0 hl0
            go_wp2_with fail
            refine wp_region_later (by kernel_rfl) (by kernel_rfl) ?_
            repeat (go_big_quiet_step (first | (go_at_call 28; exact calls_later_same (hR.out _)) | exact rfl))
            refine wpQuiet_nil ?_
            rintro _ ⟨e1, rfl⟩
            go_wp2_with fail
            go_roundw
            case rel => exact ⟨1, by omega, by first | rfl | go_num, hgo2, bthen hbel e1.property⟩
            case measure => simp [intOf]; omega
          · obtain ⟨m, rfl⟩ : ∃ m, i = m + 1 := ⟨i - 1, by omega⟩
            have d0 := hprev.out m rfl
            clear hprev hp0
            by_cases hxl : x ≤ last
            · have hres : Hid (false = G) := by rw [← hgo.out, right_bad (.inl hxl)]; rfl
              have hxd : decide (x ≤ last) = true := decide_eq_true hxl
              clear hrb
              go_wp2_with fail
              refine wp_region_later (by kernel_rfl) (by kernel_rfl) ?_
              repeat (go_big_quiet_step (first | (go_at_call 28; exact calls_later_same (hR.out _)) | exact rfl))
              refine wpQuiet_nil ?_
              rintro _ ⟨e1, rfl⟩
              go_wp2_with fail
              go_ret
              exact ⟨by rw [← hres.out]; rfl, bthen hbel e1.property⟩
            · have hgo2 : Hid (rightGo L (prevId l (m + 1 + 1)) (l.drop (m + 1 + 1)) = G) := by
                rw [hnext.out, ← hgo.out]
                exact (right_on (L := L) (last := last) (p := (x, y)) (not_or.2 ⟨hxl, not_or.2 ⟨by rw [hrb]; simp, hy⟩⟩)).symm
              have hxd : decide (x ≤ last) = false := decide_eq_false hxl
              clear hrb
              go_wp2_with fail
              refine wp_region_later (by kernel_rfl) (by kernel_rfl) ?_
              repeat (go_big_quiet_step (first | (go_at_call 28; exact calls_later_same (hR.out _)) | exact rfl))
              refine wpQuiet_nil ?_
              rintro _ ⟨e1, rfl⟩
              go_wp2_with fail
              go_roundw
              case rel => exact ⟨m + 1 + 1, by omega, by go_num, hgo2, bthen hbel e1.property⟩
              case measure => simp [intOf]; omega
    · have hres : Hid (true = G) := by rw [← hgo.out, List.drop_of_length_le (by rw [hn.out]; omega)]; rfl
      go_wp2_with fail
      refine (hT.out _ (hrT.out.of_below (Nat.le_refl _) hbel)).mono ?_
      rintro e w1 ⟨rfl, hb1⟩
      cases tb
      · go_wp2_with fail
        go_ret
        exact ⟨by rw [← hres.out]; rfl, bthen hbel hb1⟩
      · go_wp2_with fail
        refine (hU.out _).mono ?_
        rintro e w2 ⟨rfl, rfl⟩
        go_wp2_with fail
        go_ret
        exact ⟨by rw [← hres.out]; simp, bthen hbel hb1⟩

/-- Where a number is. -/
def idxF (id : Int) (i : Nat) : List Nd → Int
  | [] => -1
  | p :: r => if p.1 = id then (i : Int) else idxF id (i + 1) r
theorem find_same (id : Int) (g : Nat) (w : World) (hB : Blk w g 3 #[.int .i64 id]) (x y : Int) : Calls Try.prog 68 #[nv (x, y), .pointer (some ⟨g, 0, none⟩)] w fun e w' => e = .returned (.bool (x == id)) ∧ Below w.heap.size w w' := by
  have hlt := hB.lt
  have c0 := hB.cell 0
  simp only [List.getElem?_toArray, List.getElem?_cons_zero] at c0
  go_enter Try.func68, Try.ntmps68
  go_wp2_with fail
  go_ret
  exact ⟨rfl, balloc0 _ _⟩
theorem idx_at {id : Int} {i : Nat} {p : Nd} {r : List Nd} (h : p.1 = id) : idxF id i (p :: r) = (i : Int) := if_pos h
theorem idx_on {id : Int} {i : Nat} {p : Nd} {r : List Nd} (h : ¬ p.1 = id) : idxF id i (p :: r) = idxF id (i + 1) r := if_neg h

set_option maxRecDepth 100000 in
theorem index_func (id : Int) (g : Nat) (A : Option Addr) (c : Nat) (l : List Nd) (w : World) (hB : Blk w g 3 #[.int .i64 id]) (hr : Rd w A l.length 2 (ndc l)) (hl : l.length ≤ 1000000) :
    Calls Try.prog 67 #[.slice A l.length c, .func (.func 68) #[] #[.pointer (some ⟨g, 0, none⟩)]] w fun e w' => e = .returned (.int .i64 (idxF id 0 l)) ∧ Below w.heap.size w w' := by
  generalize hG : idxF id 0 l = G
  replace hG := hide hG
  obtain ⟨n, hn⟩ : ∃ n, Hid (l.length = n) := ⟨_, rfl⟩
  rw [hn.out] at hl
  have hrn : Hid (Rd w A l.length 2 (ndc l)) := hr
  rw [hn.out]
  clear hr
  have hBh := hide hB
  have hgl := hB.lt
  clear hB
  go_enter Try.func67, Try.ntmps67
  go_wp2_with fail
  go_loopw [8] (fun k wr => ∃ (i : Nat), i ≤ n ∧ k = .int .i64 i ∧ Hid (idxF id i (l.drop i) = G) ∧ Below w.heap.size w wr) (fun k _ => n - (intOf k).toNat)
  case atStart => exact ⟨0, by omega, rfl, by show _ = _; rw [List.drop_zero]; exact hG.out, Below.refl _ _⟩
  case round =>
    obtain ⟨i, hi, rfl, hgo, hbel⟩ := hrel
    by_cases hlt : i < n
    · have hil : i < l.length := by rw [hn.out]; exact hlt
      obtain ⟨b, off, rfl, hb, c0, c1⟩ := rd_at (hrn.out.of_below (Nat.le_refl _) hbel) hil
      rw [List.drop_eq_getElem_cons hil] at hgo
      generalize l[i] = p at *
      obtain ⟨x, y⟩ := p
      simp only at c0 c1
      have hF := find_same id g wr (hBh.out.kept hbel) x y
      by_cases hx : x = id
      · have hres : Hid ((i : Int) = G) := by rw [← hgo.out]; exact (idx_at (p := (x, y)) hx).symm
        rw [show (x == id) = true by simpa using hx] at hF
        replace hF := hide hF
        clear hx
        go_wp2_with fail
        refine hF.out.mono ?_
        rintro e w1 ⟨rfl, hb1⟩
        go_wp2_with fail
        go_ret
        exact ⟨by rw [← hres.out]; rfl, bthen hbel hb1⟩
      · have hgo2 : Hid (idxF id (i + 1) (l.drop (i + 1)) = G) := by rw [← hgo.out]; exact (idx_on (p := (x, y)) hx).symm
        rw [show (x == id) = false by simpa using hx] at hF
        replace hF := hide hF
        clear hx
        go_wp2_with fail
        refine hF.out.mono ?_
        rintro e w1 ⟨rfl, hb1⟩
        go_wp2_with fail
        go_roundw
        case rel => exact ⟨i + 1, by omega, by go_num, hgo2, bthen hbel hb1⟩
        case measure => simp [intOf]; omega
    · have hres : Hid (-1 = G) := by rw [← hgo.out, List.drop_of_length_le (by rw [hn.out]; omega)]; rfl
      go_wp2_with fail
      go_ret
      exact ⟨by rw [← hres.out]; rfl, hbel⟩

theorem idx_find (id : Int) : ∀ (l : List Nd) (i : Nat), (idxF id i l = -1 ∧ findF id l = 0) ∨ (∃ k, idxF id i l = ((i + k : Nat) : Int) ∧ ∃ h : k < l.length, findF id l = l[k].2)
  | [], i => .inl ⟨rfl, rfl⟩
  | p :: r, i => by
    by_cases h : p.1 = id
    · exact .inr ⟨0, by rw [idx_at h, Nat.add_zero], by simp, by rw [find_at h]; rfl⟩
    · rw [idx_on h, find_on h]
      rcases idx_find id r (i + 1) with ⟨h1, h2⟩ | ⟨k, h1, h2, h3⟩
      · exact .inl ⟨h1, h2⟩
      · exact .inr ⟨k + 1, by rw [h1, show i + 1 + k = i + (k + 1) by omega], by simp; omega, by rw [h3]; simp⟩

set_option maxRecDepth 100000 in
theorem roll_find (id : Int) (A : Option Addr) (c : Nat) (l : List Nd) (w : World) (hr : Rd w A l.length 2 (ndc l)) (hl : l.length ≤ 1000000) :
    Calls Try.prog 50 #[.slice A l.length c, .int .i64 id] w fun e w' => e = .returned (.int .i64 (findF id l)) ∧ Below w.heap.size w w' := by
  have hI := index_func id w.heap.size A c l (w.alloc (.cells #[.int .i64 id] 3)) (Blk.made _ _ _) (hr.alloc _) hl
  rcases idx_find id l 0 with ⟨h1, h2⟩ | ⟨k, h1, hk, h3⟩
  · rw [h1] at hI
    rw [h2]
    replace hI := hide hI
    generalize l.length = n at *
    go_enter Try.func50, Try.ntmps50
    go_wp2_with fail
    refine hI.out.mono ?_
    rintro e w1 ⟨rfl, hb1⟩
    go_wp2_with fail
    go_ret
    exact ⟨rfl, bthen (balloc0 _ _) hb1⟩
  · rw [h1] at hI
    obtain ⟨v, hv⟩ : ∃ v, l[k].2 = v := ⟨_, rfl⟩
    replace hv := hide hv
    rw [h3, hv.out]
    rw [Nat.zero_add] at hI
    replace hI := hide hI
    have hrr := hide hr
    have hkl : Hid (k < l.length) := hk
    have hk2 : (k : Int) < (l.length : Int) := by omega
    have hl2 : (l.length : Int) ≤ 1000000 := by omega
    clear hr h1 hl
    go_enter Try.func50, Try.ntmps50
    go_wp2_with fail
    refine hI.out.mono ?_
    rintro e w1 ⟨rfl, hb1⟩
    obtain ⟨b, off, rfl, hb, c0, c1⟩ := rd_at ((hrr.out.alloc (.cells #[.int .i64 id] 3)).kept hb1) hkl.out
    rw [hv.out] at c1
    clear c0 h3
    go_wp2_with fail
    go_ret
    exact ⟨rfl, bthen (balloc0 _ _) hb1⟩
end Go.Proofs.Ytbfecpomlkapdaa

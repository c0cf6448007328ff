/- Part 36 of the proof: texts joined by this repo's tools/merge2.py (ClnB). By the prover of this repo. -/
import Derived.Test.YteebghoijaaakaaGreatM14
import Derived.Test.YteebghoijaaakaaGreatM32
set_option linter.unusedVariables false
set_option linter.unusedSimpArgs false
/- The walks of Clone, on: of a table's store, of a pool, of a digest. By the prover of this repo. -/
namespace Go.Proofs.YteebghoijaaakaaGreat
open Go.RowKit
open TwigM RollM StoM

theorem own_arr {w : World} {base n : Nat} {v : Value} {S : List Nd} (h : w.ownsRow base 67 2 v n (ndv S)) (hn : 0 < n) : ∃ g cap, v = .slice (some ⟨g, 0, none⟩) n cap ∧ base ≤ g ∧ Arr w g S := by
  rcases h.2 with ⟨_, h0⟩ | ⟨g, cap, cur, rfl, hb, hg, _, _, _, ht⟩
  · omega
  · refine ⟨g, cap, rfl, hb, cur.toList.drop (n * 2), ?_⟩
    have e : (ndv S ++ cur.toList.drop (n * 2)).toArray = cur := by rw [← ht, List.take_append_drop]
    rw [e]
    exact hg
theorem Arr.rd {w : World} {b : Nat} {S : List Nd} (h : Arr w b S) : Rd w (some ⟨b, 0, none⟩) S.length 2 (ndc S) := fun _ => by
  refine ⟨b, 0, rfl, h.lt, fun i hi => ?_⟩
  have hz := ndv_length S
  obtain ⟨rest, h⟩ := h
  rw [Nat.zero_add, h.cell i, List.getElem?_toArray, List.getElem?_append_left (by omega), ndv_get S i hi]
set_option maxRecDepth 100000 in
theorem clone_big (A : Option Addr) (c : Nat) (l : List Nd) (w : World) (hr : Rd w A l.length 2 (ndc l)) (hA : A = none → l.length = 0) (hl : l.length ≤ 100000000) :
    Calls Tryz.prog 166 #[.slice A l.length c] w fun e w' => ∃ v, e = .returned v ∧ w'.ownsRow w.heap.size 67 2 v l.length (ndv l) ∧ Below w.heap.size w w' := by
  cases A with
  | none =>
    have h0 := hA rfl
    have hn : l = [] := List.eq_nil_of_length_eq_zero h0
    subst hn
    have he := fun V => Lib.run_eql_slice_nil (P := Tryz.prog) V 64 67 none 0 c 0 0 Tryz.underlying64
    go_enter Tryz.func166, Tryz.ntmps166
    go_wp2_with fail
    go_ret
    exact ⟨_, rfl, World.ownsRow_nil _ _ _ _, Below.refl _ _⟩
  | some ad =>
    have hlen : Hid (l.length = l.length) := rfl
    have hrh := hide hr
    have hrange := hide (ndv_range l)
    have hone := hide (ndc_one l)
    obtain ⟨n, hn⟩ : ∃ n, l.length = n := ⟨_, rfl⟩
    rw [hn] at hl hrange
    have hrn : Hid (Rd w (some ad) n 2 (ndc l)) := by have := hr; rwa [hn] at this
    have hnh := hide hn
    rw [hn]
    clear hr hA hn hlen hrh
    have he := fun V => Lib.run_eql_slice_nil (P := Tryz.prog) V 64 67 (some ad) n c 0 0 Tryz.underlying64
    go_enter Tryz.func166, Tryz.ntmps166
    go_wp2_with (at_builtin; refine wpList_app elNode rfl (.tmp 5) (.tmp 6) rfl w.heap.size _ 0 [] rfl (World.ownsRow_lit w #[] 0 (Nat.le_refl _) (by unfold maxLen; omega) rfl) (some ad) n c (ndc l) rfl (hrn.out.alloc _) (fun i _ => hone.out i) (by omega) (by simp) (fun k => by cases k) ?_; intro v1 w1 how1 hb1 hgr1 hat1)
    go_ret
    have how2 : w1.ownsRow w.heap.size 67 2 v1 l.length (ndv l) := by
      rw [hrange.out, Nat.zero_add, List.nil_append] at how1
      rw [hnh.out]
      exact how1
    exact ⟨_, rfl, by rw [← hnh.out]; exact how2, (balloc0 _ _).trans hb1⟩
set_option maxRecDepth 100000 in
theorem probe_clone (g b k cp : Nat) (S : List Nd) (L : Int) (l : List Nd) (w : World) (h : PrbAt w g b k cp S L l) (hk : k ≤ 26) :
    Calls Tryz.prog 120 #[.pointer (some ⟨g, 0, none⟩)] w fun e w' => ∃ g' b' cp', e = .returned (.pointer (some ⟨g', 0, none⟩)) ∧ PrbAt w' g' b' k cp' S L l ∧ w.heap.size ≤ g' ∧ w.heap.size ≤ b' ∧ Below w.heap.size w w' := by
  obtain ⟨c0, c1, c2, c3, c4, -⟩ := h.raw.cells
  obtain ⟨hbig1, hbig2⟩ := h.raw.big
  have hSl := h.raw.len
  have hp26 : 2 ^ k ≤ 2 ^ 26 := Nat.pow_le_pow_right (by omega) hk
  rw [show (2 : Nat) ^ 26 = 67108864 from rfl] at hp26
  have hg := h.raw.lt.1
  have hh := hide h
  obtain ⟨n, hn⟩ : ∃ n, 2 ^ k = n := ⟨_, rfl⟩
  rw [hn] at c4 hbig1 hbig2 hSl hp26
  have hC := hide (fun W (hW : Below w.heap.size w W) => clone_big (some ⟨b, 0, none⟩) cp S W (hh.out.kept hW).raw.arr.rd (fun e => by cases e) (by omega))
  rw [hSl] at hC
  have hB0 := balloc0 w (.cells #[.int .i64 L, .int .i64 (k : Int), .int .i64 (l.length : Int), .int .i64 (sumL l), .slice (some ⟨b, 0, none⟩) n cp] 180)
  have hC1 := hide (hC.out _ hB0)
  have hlt0 : (w.alloc (.cells #[.int .i64 L, .int .i64 (k : Int), .int .i64 (l.length : Int), .int .i64 (sumL l), .slice (some ⟨b, 0, none⟩) n cp] 180)).heap.size = w.heap.size + 1 := by simp
  have hmk := hide (Blk.made w 180 #[.int .i64 L, .int .i64 (k : Int), .int .i64 (l.length : Int), .int .i64 (sumL l), .slice (some ⟨b, 0, none⟩) n cp])
  have hB0h := hide hB0
  replace hSl := hide hSl
  replace hn := hide hn
  clear h hC hB0
  go_enter Tryz.func120, Tryz.ntmps120
  go_wp2_with fail
  refine Calls.mono hC1.out ?_
  rintro e w1 ⟨v, rfl, hv, hb1⟩
  obtain ⟨g', cap, rfl, hg', har⟩ := own_arr (S := S) hv (by omega)
  have hblk := hmk.out.kept hb1
  have d1 := hblk.lt
  have d2 := hblk.free 4
  have d3 := hblk.cell 4
  have hblkh := hide hblk
  have harh := hide har
  have hb1h := hide (hB0h.out.trans (hb1.mono (by omega)))
  clear hv hblk har hb1
  go_wp2_with fail
  go_ret
  have hs := hblkh.out.set 4 (.slice (some ⟨g', 0, none⟩) n cap)
  refine ⟨w.heap.size, g', cap, rfl, ⟨⟨?_, harh.out.off (p := ⟨w.heap.size, 4, none⟩) (by show g' ≠ w.heap.size; omega) _, by omega, hh.out.raw.len, hh.out.raw.k1, hh.out.raw.k2⟩, hh.out.tab, hh.out.half, hh.out.l1, hh.out.l2⟩, Nat.le_refl _, by omega, hb1h.out.setCell (Nat.le_refl _) _⟩
  rw [hn.out]
  simpa using hs
theorem dense_clone_nil (w : World) : Calls Tryz.prog 119 #[.pointer none] w fun e w' => e = .returned (.pointer none) ∧ w = w' := by
  go_enter Tryz.func119, Tryz.ntmps119
  go_wp2_with fail
  go_ret
  exact ⟨rfl, rfl⟩
theorem probe_clone_nil (w : World) : Calls Tryz.prog 120 #[.pointer none] w fun e w' => e = .returned (.pointer none) ∧ w = w' := by
  go_enter Tryz.func120, Tryz.ntmps120
  go_wp2_with fail
  go_ret
  exact ⟨rfl, rfl⟩
set_option maxRecDepth 100000 in
set_option maxHeartbeats 1000000 in
theorem pool_clone (p : Nat) (kd L : Int) (l : List Nd) (F : Nat → Prop) (w : World) (h : PoolAt w p kd L l F) :
    Calls Tryz.prog 67 #[.pointer (some ⟨p, 0, none⟩)] w fun e w' => ∃ q F', e = .returned (.pointer (some ⟨q, 0, none⟩)) ∧ PoolAt w' q kd L l F' ∧ w.heap.size ≤ q ∧ (∀ j, F' j → w.heap.size ≤ j) ∧ Below w.heap.size w w' := by
  have hpl := h.lt.1
  rcases h.kind with ⟨rfl, g, b, hb, hd, -⟩ | ⟨rfl, g, b, k, cp, R, hb, hd, hk2, -⟩
  · have c0 := hb.cell 0
    have c1 := hb.cell 1
    have hN := hide (fun W => probe_clone_nil W)
    have hC := hide (fun W (hW : Below w.heap.size w W) => dense_clone g b L l W (hd.kept hW))
    have hh := hide h
    clear h hb hd
    go_enter Tryz.func67, Tryz.ntmps67
    go_wp2_with fail
    go_region_with (first
      | (go_at_call 119; (with_reducible refine (hC.out w.drew (Below.refl _ _).drew).mono ?_); rintro e w1 ⟨g', b', rfl, hd1, q1, q2, hb1⟩; have z1 := (((Below.refl w.heap.size w).drew.trans hb1).cell (p := ⟨p, 1, none⟩) hpl).trans c1; have hd1 := hide hd1; have hb1 := hide hb1)
      | (go_at_call 120; (with_reducible refine (hN.out _).mono ?_); rintro e w2 ⟨rfl, rfl⟩))
    all_goals go_wp2_with fail
    all_goals go_ret
    all_goals
      have hz : w.heap.size ≤ w1.heap.size := hb1.out.size
      have hdl := hd1.out.lt
      refine ⟨w1.heap.size, _, rfl, ⟨hh.out.canon, hh.out.inU, hh.out.sum, hh.out.len, ?_, .inl ⟨rfl, g', b', Blk.made _ _ _, hd1.out.kept (balloc0 _ _), rfl⟩⟩, hz, ?_, balloc ((Below.refl _ _).drew.trans hb1.out) _⟩
      · rintro (e | e) <;> omega
      · rintro j (rfl | rfl)
        · exact q1
        · exact q2
  · have c0 := hb.cell 0
    have c1 := hb.cell 1
    have hN := hide (fun W => dense_clone_nil W)
    have hC := hide (fun W (hW : Below w.heap.size w W) => probe_clone g b k cp R L l W (hd.kept hW) hk2)
    have hh := hide h
    clear h hb hd
    go_enter Tryz.func67, Tryz.ntmps67
    go_wp2_with fail
    go_region_with (first
      | (go_at_call 120; (with_reducible refine (hC.out w.drew (Below.refl _ _).drew).mono ?_); rintro e w1 ⟨g', b', cp', rfl, hd1, q1, q2, hb1⟩; have z1 := (((Below.refl w.heap.size w).drew.trans hb1).cell (p := ⟨p, 0, none⟩) hpl).trans c0; have hd1 := hide hd1; have hb1 := hide hb1)
      | (go_at_call 119; (with_reducible refine (hN.out _).mono ?_); rintro e w2 ⟨rfl, rfl⟩))
    all_goals go_wp2_with fail
    all_goals go_ret
    all_goals
      have hz : w.heap.size ≤ w1.heap.size := hb1.out.size
      have hdl := hd1.out.raw.lt
      refine ⟨w1.heap.size, _, rfl, ⟨hh.out.canon, hh.out.inU, hh.out.sum, hh.out.len, ?_, .inr ⟨rfl, g', b', k, cp', R, Blk.made _ _ _, hd1.out.kept (balloc0 _ _), hk2, rfl⟩⟩, hz, ?_, balloc ((Below.refl _ _).drew.trans hb1.out) _⟩
      · rintro (e | e) <;> omega
      · rintro j (rfl | rfl)
        · exact q1
        · exact q2
set_option maxRecDepth 100000 in
set_option maxHeartbeats 1000000 in
theorem digest_clone (d p : Nat) (K kd L : Int) (l : List Nd) (F : Nat → Prop) (w : World) (h : DigAt w d p K kd L l F) :
    Calls Tryz.prog 24 #[.pointer (some ⟨d, 0, none⟩)] w fun e w' => ∃ d' p' F', e = .returned (.pointer (some ⟨d', 0, none⟩)) ∧ DigAt w' d' p' K kd L l F' ∧ w.heap.size ≤ d' ∧ w.heap.size ≤ p' ∧ (∀ j, F' j → w.heap.size ≤ j) ∧ Below w.heap.size w w' := by
  have c0 := h.blk.cell 0
  have c1 := h.blk.cell 1
  have hdl := h.lt.1
  have hC := hide (fun W (hW : Below w.heap.size w W) => pool_clone p kd L l F W (h.pool.kept hW))
  have hk1 := h.k1
  have hk2 := h.k2
  clear h
  go_enter Tryz.func24, Tryz.ntmps24
  go_wp2_with fail
  go_region_with (first
    | (go_at_call 67; (with_reducible refine (hC.out w.drew (Below.refl _ _).drew).mono ?_); rintro e w1 ⟨q, F', rfl, hd1, q1, q2, hb1⟩; have z1 := (((Below.refl w.heap.size w).drew.trans hb1).cell (p := ⟨d, 0, none⟩) hdl).trans c0; have hd1 := hide hd1; have hb1 := hide hb1; have q2 := hide q2))
  all_goals go_wp2_with fail
  all_goals go_ret
  all_goals
    have hz : w.heap.size ≤ w1.heap.size := hb1.out.size
    have hpl := hd1.out.lt
    refine ⟨w1.heap.size, q, F', rfl, ⟨Blk.made _ _ _, hd1.out.kept (balloc0 _ _), by have := hpl.1; omega, fun e => by have := hpl.2 _ e; omega, hk1, hk2⟩, hz, q1, q2.out, balloc ((Below.refl _ _).drew.trans hb1.out) _⟩
end Go.Proofs.YteebghoijaaakaaGreat

/- Part 33 of the proof: texts joined by this repo's tools/merge2.py (ShtG ShtJ ShtK). By the prover of this repo. -/
import Derived.Test.YteebghoijaaakaaGreatM31
import Derived.Test.YteebghoijaaakaaGreatM29
import Derived.Test.YteebghoijaaakaaGreatM9
import Derived.Test.YteebghoijaaakaaGreatM13
import Derived.Test.YteebghoijaaakaaGreatM32
set_option linter.unusedVariables false
set_option linter.unusedSimpArgs false
/- The walk of sheet.reading's node: another line. By the prover of this repo. -/
namespace Go.Proofs.YteebghoijaaakaaGreat
namespace SH
open Go.RowKit
open TwigM RollM StoM VaryM WirM

theorem turn_grown {w w1 : World} (S : Nat → Prop) (r : Option Nat) (h : w.grownBy w1 r) (hs : ∀ k, r = some k → S k) : Turn S w w1 :=
  ⟨h.os, h.tape, h.output, h.size, fun k hk hn => h.block k hk fun e => hn (hs k e.symm)⟩
/-- A row's block is of another type than a block of that type. -/
theorem own_blk_ne {w : World} {b pp : Nat} {e t : TypeId} {size n : Nat} {v : Value} {xs : List Value} {cs : Array Value} (h : w.ownsRow b e size v n xs) (hb : Blk w pp t cs) (hne : t ≠ e) : ∀ j, v.ownBlock = some j → ¬ j = pp := by
  intro j hj e1
  subst e1
  rcases h.2 with ⟨rfl, _⟩ | ⟨g, cap, cur, rfl, _, hg, _⟩
  · cases hj
  · have k : g = j := Option.some.inj hj
    subst k
    unfold Blk at hb
    rw [hb] at hg
    injection hg with hg
    injection hg with _ ht _
    exact hne ht
set_option maxRecDepth 100000 in
set_option maxHeartbeats 4000000 in
theorem node_c (B g : Nat) (L K S : Int) (u : Value) (l : List Nd) (p : Nd) (w : World) (hb : Blk w g 155 #[.int .i64 L, .int .i64 K, .int .i64 0, .int .i64 S, u]) (hrow : w.ownsRow B 67 2 u l.length (ndv l)) (hB : B ≤ w.heap.size)
    (hL1 : 1 ≤ L) (hL2 : L ≤ 48) (h0 : 1 ≤ p.1) (h1 : p.1 < 2 * pw L) (hc : 1 ≤ p.2) (hS : p.2 ≤ S) (hS2 : S ≤ 72057594037927935) (hlast : ∀ q ∈ l, q.1 < p.1) (hl : l.length ≤ 1000000) :
    Calls Tryz.prog 105 #[.pointer (some ⟨g, 0, none⟩), .string (str (nodeL L p))] w fun e w' => e = .returned (.bool true) ∧ ∃ u', Blk w' g 155 #[.int .i64 L, .int .i64 K, .int .i64 0, .int .i64 (S - p.2), u'] ∧ w'.ownsRow B 67 2 u' (l.length + 1) (ndv (l ++ [p])) ∧ Turn (fun j => j = g ∨ u.ownBlock = some j) w w' := by
  obtain ⟨id, c⟩ := p
  obtain ⟨y1, y2, y3, y4⟩ := ends_pos (p := (id, c)) hL1 h0 h1
  have hp48 := pw_le48 hL2
  simp only at y1 y2 y3 y4 h0 h1 hc hS hlast ⊢
  have hlen : (nodeL L (id, c)).length ≤ 100 := line3_len (by simp only; omega) (by simp only; omega) (by simp only; omega) ⟨by decide, by decide, by decide⟩
  unfold nodeL at hlen ⊢
  simp only at hlen ⊢
  have hT := fun (ba : Nat) (W : World) (hW : Blk W ba 9 #[.string (str []), .string (str [46, 46]), .string (str [32])]) => three_c ba 3 [] [46, 46] [32] (loF L id).toNat (loF L id + pw (L - lg id) - 1).toNat c.toNat W hW (by omega) (by omega) (by omega) (noDig_cons (c := 46) (.inl (by decide))) (noDig_cons (c := 32) (.inl (by decide))) (by omega)
  have hN := hide (fun W => sheet_node L id W hL1 hL2 h0 h1)
  rw [show (((loF L id).toNat : Nat) : Int) = loF L id by omega, show (((loF L id + pw (L - lg id) - 1).toNat : Nat) : Int) = loF L id + pw (L - lg id) - 1 by omega, show ((c.toNat : Nat) : Int) = c by omega] at hT
  replace hT := hide hT
  generalize hLL : line3 [] [46, 46] [32] (loF L id).toNat (loF L id + pw (L - lg id) - 1).toNat c.toNat = LL at *
  generalize loF L id + pw (L - lg id) - 1 = hi at *
  generalize loF L id = lo at *
  clear hLL hlen
  have hsn := hide (ndv_snoc l (id, c))
  have hBB := hide (fun W (hW : Below w.heap.size w W) => hb.kept hW)
  have hRR := hide (fun W (hW : Below w.heap.size w W) => own_kept hrow hW)
  have hlt := hb.lt
  obtain ⟨A, ca, rfl⟩ := own_len hrow
  clear hb hrow
  obtain ⟨n, hn⟩ : ∃ n, Hid (l.length = n) := ⟨_, rfl⟩
  rw [hn.out] at hRR hBB hl ⊢
  go_enter Tryz.func105, Tryz.ntmps105
  go_wp2_with fail
  refine Calls.mono (hT.out _ _ (Blk.made w 9 _)) ?_
  rintro e w1 ⟨rfl, hb1⟩
  have b2 : Below w.heap.size w w1 := (balloc0 w _).trans (hb1.mono (by simp))
  have bn0 := hide (Blk.made w1 212 #[.int .i64 lo, .int .i64 hi, .int .i64 c])
  have b3 := hide (balloc b2 (.cells #[.int .i64 lo, .int .i64 hi, .int .i64 c] 212))
  have hnb : w.heap.size ≤ w1.heap.size := b2.size
  go_wp2_with fail
  obtain ⟨nb, hnb2⟩ : ∃ nb, w1.heap.size = nb := ⟨_, rfl⟩
  generalize (w1.alloc (.cells #[.int .i64 lo, .int .i64 hi, .int .i64 c] 212)) = W2 at *
  rw [hnb2] at bn0 hnb ⊢
  clear hb1 b2 hnb2
  have bg := hBB.out W2 b3.out
  have c0 : W2.cell? ⟨g, 0, none⟩ = some (.int .i64 L) := bg.cell 0
  have c1 : W2.cell? ⟨nb, 0, none⟩ = some (.int .i64 lo) := bn0.out.cell 0
  have c2 : W2.cell? ⟨nb, 1, none⟩ = some (.int .i64 hi) := bn0.out.cell 1
  have c3 := bn0.out.lt
  have c4 := bg.lt
  clear bg
  have hN1 := hide (fun (e : Later W2.heap.size W2) => hN.out e.val)
  refine wp_region_later (by kernel_rfl) (by kernel_rfl) ?_
  repeat (go_big_quiet_step (first
    | (go_at_call 161; exact calls_later ((hN1.out _).mono fun e w' ⟨a, n, b⟩ => ⟨a, by rw [b]; exact below_drewN (Below.refl _ _) n⟩))
    | exact rfl))
  refine wpQuiet_nil ?_
  rintro _ ⟨e1, rfl⟩
  have b4 := hide (b3.out.trans (e1.property.mono b3.out.size))
  have bn := hide (bn0.out.kept e1.property)
  generalize e1.val = W3 at *
  clear e1 c0 c1 c2 c3 c4 hN1 bn0 b3
  have bg := hide (hBB.out W3 b4.out)
  have hrow := hide (hRR.out W3 b4.out)
  have c0 : W3.cell? ⟨g, 3, none⟩ = some (.int .i64 S) := bg.out.cell 3
  have c1 : W3.cell? ⟨g, 4, none⟩ = some (.slice A n ca) := bg.out.cell 4
  have c2 : W3.cell? ⟨nb, 2, none⟩ = some (.int .i64 c) := bn.out.cell 2
  have c3 := bn.out.lt
  have c4 := bg.out.lt
  have d1 : decide (c < 1) = false := decide_eq_false (by omega)
  have d2 : decide (S < c) = false := decide_eq_false (by omega)
  have hlast := hide hlast
  have hsnA := hsn
  rcases n with _ | k
  · have hk : decide (0 < ((0 : Nat) : Int)) = false := rfl
    go_wp2_with fail
    refine wp_region_later (by kernel_rfl) (by kernel_rfl) ?_
    repeat (go_big_quiet_step (first | exact rfl))
    refine wpQuiet_nil ?_
    rintro _ ⟨e1, rfl⟩
    have b5 := hide (b4.out.trans (e1.property.mono b4.out.size))
    have bn5 := hide (bn.out.kept e1.property)
    have bg5 := hide (bg.out.kept e1.property)
    have hrow5 := hide (own_kept hrow.out e1.property)
    generalize e1.val = W4 at *
    clear e1 c0 c1 c2 c3 c4 bn bg hrow b4
    have c0 : W4.cell? ⟨g, 3, none⟩ = some (.int .i64 S) := bg5.out.cell 3
    have c2 : W4.cell? ⟨nb, 2, none⟩ = some (.int .i64 c) := bn5.out.cell 2
    have c3 := bn5.out.lt
    have c4 := bg5.out.lt
    have c5 := bg5.out.free 3
    have t6 := hide ((Below.turn b5.out fun j => j = g ∨ (Value.slice A 0 ca).ownBlock = some j).trans (Turn.setCell W4 (fun j => j = g ∨ (Value.slice A 0 ca).ownBlock = some j) ⟨g, 3, none⟩ (.int .i64 (S - c)) (.inl rfl)) fun _ _ q => q)
    have bg6 : Hid (Blk (W4.setCell ⟨g, 3, none⟩ (.int .i64 (S - c))) g 155 #[.int .i64 L, .int .i64 K, .int .i64 0, .int .i64 (S - c), .slice A 0 ca]) := by
      have := bg5.out.set 3 (.int .i64 (S - c))
      show Blk _ _ _ _
      simpa using this
    have bn6 := hide (bn5.out.off (p := ⟨g, 3, none⟩) (by have := hnb; show nb ≠ g; omega) (.int .i64 (S - c)))
    have hrow6 := hide (own_turnedB hrow5.out (Turn.setCell W4 (fun j => j = g) ⟨g, 3, none⟩ (.int .i64 (S - c)) rfl) (own_blk_ne hrow5.out bg5.out (by decide)))
    have hz6 : w.heap.size ≤ (W4.setCell ⟨g, 3, none⟩ (.int .i64 (S - c))).heap.size := by have := b5.out.size; simpa using this
    go_wp2_with fail
    go_region
    clear c0 c2 c3 c4 c5 bg5 bn5 hrow5 b5
    generalize W4.setCell ⟨g, 3, none⟩ (.int .i64 (S - c)) = W5 at *
    have c0 : W5.cell? ⟨g, 4, none⟩ = some (.slice A 0 ca) := bg6.out.cell 4
    have c2 : W5.cell? ⟨nb, 2, none⟩ = some (.int .i64 c) := bn6.out.cell 2
    have c3 := bn6.out.lt
    have c4 := bg6.out.lt
    have c5 := bg6.out.free 4
    obtain ⟨i0, hi0, hz0, hz1, hz2⟩ := info_parts elNode.info
    go_wp2_with fail
    go_region_law (refine step_app _ (some 90) (by rfl) (by rfl) _ _ _ (by rfl) B 67 i0 _ 2 16 Tryz.underlying64 hi0 hz0 hz1 hz2 rfl (by omega) _ 0 (ndv l) (by rfl) ((hrow6.out.drew.alloc _).drew) ⟨W5.heap.size, 0, none⟩ 1 1 [.int .i64 id, .int .i64 c] (by rfl) (by rfl) (World.news_of_block (cs := #[.int .i64 id, .int .i64 c]) (t := 67) (fr := (0, 0)) (World.alloc_heap_new W5 _)) (by simp [Value.oneCell']) (by omega) (by unfold maxLen; omega) (by omega) (by simp; omega) (W5.heap.size + 1) (by simp) ?_; intro gg cap w2 how2 hgrow hat hltg; replace hgrow : (W5.alloc (.cells #[.int .i64 id, .int .i64 c] 67)).grownBy w2 (Value.slice A 0 ca).ownBlock := ⟨hgrow.os, hgrow.tape, hgrow.output, hgrow.size, hgrow.block⟩; have bg7 : Hid (Blk w2 g 155 #[.int .i64 L, .int .i64 K, .int .i64 0, .int .i64 (S - c), .slice A 0 ca]) := blk_other (bg6.out.alloc (.cells #[.int .i64 id, .int .i64 c] 67)) (hrow6.out.alloc (.cells #[.int .i64 id, .int .i64 c] 67)) hgrow (by decide); have f0 := bg7.out.lt; have f1 := bg7.out.free 4; have f2 : w2.cell? ⟨g, 4, none⟩ = some (.slice A 0 ca) := bg7.out.cell 4)
    all_goals
      have bg8 : Blk (w2.setCell ⟨g, 4, none⟩ (.slice (some ⟨gg, 0, none⟩) (0 + 1) cap)) g 155 #[.int .i64 L, .int .i64 K, .int .i64 0, .int .i64 (S - c), .slice (some ⟨gg, 0, none⟩) (0 + 1) cap] := by
        have := bg7.out.set 4 (.slice (some ⟨gg, 0, none⟩) (0 + 1) cap)
        simpa using this
      have how8 := own_turnedB how2 (Turn.setCell w2 (fun j => j = g) ⟨g, 4, none⟩ (.slice (some ⟨gg, 0, none⟩) (0 + 1) cap) rfl) (own_blk_ne how2 bg7.out (by decide))
      have t7 : Turn (fun j => j = g ∨ (Value.slice A 0 ca).ownBlock = some j) W5 w2 := (Turn.alloc W5 _ (.cells #[.int .i64 id, .int .i64 c] 67)).trans (turn_grown (fun j => j = g ∨ (Value.slice A 0 ca).ownBlock = some j) _ hgrow fun _ q => .inr q) fun _ _ q => q
      have t8 := hide ((t6.out.trans t7 fun _ _ q => q).trans (Turn.setCell w2 (fun j => j = g ∨ (Value.slice A 0 ca).ownBlock = some j) ⟨g, 4, none⟩ (.slice (some ⟨gg, 0, none⟩) (0 + 1) cap) (.inl rfl)) fun _ _ q => q)
      have bg8 := hide bg8
      have how8 := hide how8
      clear t7
      go_wp2_with fail
      go_ret
      exact ⟨rfl, _, bg8.out, by rw [hsn.out]; exact how8.out, t8.out⟩
  · have hro := hrow.out
    rw [← hn.out] at hro
    obtain ⟨b, cp, e1, hbl, x1, x2⟩ := nd_at hro (show k < l.length by have := hn.out; omega)
    cases e1
    have hle : decide (id ≤ (l[k]'(by have := hn.out; omega)).1) = false := decide_eq_false (by have := hlast.out _ (List.getElem_mem (show k < l.length by have := hn.out; omega)); omega)
    have hkk : decide (0 < ((k + 1 : Nat) : Int)) = true := decide_eq_true (by omega)
    clear hro
    generalize (l[k]'(by have := hn.out; omega)).1 = lst at *
    go_wp2_with fail
    refine wp_region_later (by kernel_rfl) (by kernel_rfl) ?_
    repeat (go_big_quiet_step (first | exact rfl))
    refine wpQuiet_nil ?_
    rintro _ ⟨e1, rfl⟩
    clear x1 x2 hbl
    have b5 := hide (b4.out.trans (e1.property.mono b4.out.size))
    have bn5 := hide (bn.out.kept e1.property)
    have bg5 := hide (bg.out.kept e1.property)
    have hrow5 := hide (own_kept hrow.out e1.property)
    generalize e1.val = W4 at *
    clear e1 c0 c1 c2 c3 c4 bn bg hrow b4
    have c0 : W4.cell? ⟨g, 3, none⟩ = some (.int .i64 S) := bg5.out.cell 3
    have c2 : W4.cell? ⟨nb, 2, none⟩ = some (.int .i64 c) := bn5.out.cell 2
    have c3 := bn5.out.lt
    have c4 := bg5.out.lt
    have c5 := bg5.out.free 3
    have t6 := hide ((Below.turn b5.out fun j => j = g ∨ (Value.slice (some ⟨b, 0, none⟩) (k + 1) ca).ownBlock = some j).trans (Turn.setCell W4 (fun j => j = g ∨ (Value.slice (some ⟨b, 0, none⟩) (k + 1) ca).ownBlock = some j) ⟨g, 3, none⟩ (.int .i64 (S - c)) (.inl rfl)) fun _ _ q => q)
    have bg6 : Hid (Blk (W4.setCell ⟨g, 3, none⟩ (.int .i64 (S - c))) g 155 #[.int .i64 L, .int .i64 K, .int .i64 0, .int .i64 (S - c), .slice (some ⟨b, 0, none⟩) (k + 1) ca]) := by
      have := bg5.out.set 3 (.int .i64 (S - c))
      show Blk _ _ _ _
      simpa using this
    have bn6 := hide (bn5.out.off (p := ⟨g, 3, none⟩) (by have := hnb; show nb ≠ g; omega) (.int .i64 (S - c)))
    have hrow6 := hide (own_turnedB hrow5.out (Turn.setCell W4 (fun j => j = g) ⟨g, 3, none⟩ (.int .i64 (S - c)) rfl) (own_blk_ne hrow5.out bg5.out (by decide)))
    have hz6 : w.heap.size ≤ (W4.setCell ⟨g, 3, none⟩ (.int .i64 (S - c))).heap.size := by have := b5.out.size; simpa using this
    go_wp2_with fail
    go_region
    clear c0 c2 c3 c4 c5 bg5 bn5 hrow5 b5
    generalize W4.setCell ⟨g, 3, none⟩ (.int .i64 (S - c)) = W5 at *
    have c0 : W5.cell? ⟨g, 4, none⟩ = some (.slice (some ⟨b, 0, none⟩) (k + 1) ca) := bg6.out.cell 4
    have c2 : W5.cell? ⟨nb, 2, none⟩ = some (.int .i64 c) := bn6.out.cell 2
    have c3 := bn6.out.lt
    have c4 := bg6.out.lt
    have c5 := bg6.out.free 4
    obtain ⟨i0, hi0, hz0, hz1, hz2⟩ := info_parts elNode.info
    go_wp2_with fail
    go_region_law (refine step_app _ (some 90) (by rfl) (by rfl) _ _ _ (by rfl) B 67 i0 _ 2 16 Tryz.underlying64 hi0 hz0 hz1 hz2 rfl (by omega) _ (k + 1) (ndv l) (by rfl) ((hrow6.out.drew.alloc _).drew) ⟨W5.heap.size, 0, none⟩ 1 1 [.int .i64 id, .int .i64 c] (by rfl) (by rfl) (World.news_of_block (cs := #[.int .i64 id, .int .i64 c]) (t := 67) (fr := (0, 0)) (World.alloc_heap_new W5 _)) (by simp [Value.oneCell']) (by omega) (by unfold maxLen; omega) (by omega) (by simp; omega) (W5.heap.size + 1) (by simp) ?_; intro gg cap w2 how2 hgrow hat hltg; replace hgrow : (W5.alloc (.cells #[.int .i64 id, .int .i64 c] 67)).grownBy w2 (Value.slice (some ⟨b, 0, none⟩) (k + 1) ca).ownBlock := ⟨hgrow.os, hgrow.tape, hgrow.output, hgrow.size, hgrow.block⟩; have bg7 : Hid (Blk w2 g 155 #[.int .i64 L, .int .i64 K, .int .i64 0, .int .i64 (S - c), .slice (some ⟨b, 0, none⟩) (k + 1) ca]) := blk_other (bg6.out.alloc (.cells #[.int .i64 id, .int .i64 c] 67)) (hrow6.out.alloc (.cells #[.int .i64 id, .int .i64 c] 67)) hgrow (by decide); have f0 := bg7.out.lt; have f1 := bg7.out.free 4; have f2 : w2.cell? ⟨g, 4, none⟩ = some (.slice (some ⟨b, 0, none⟩) (k + 1) ca) := bg7.out.cell 4)
    all_goals
      have bg8 : Blk (w2.setCell ⟨g, 4, none⟩ (.slice (some ⟨gg, 0, none⟩) ((k + 1) + 1) cap)) g 155 #[.int .i64 L, .int .i64 K, .int .i64 0, .int .i64 (S - c), .slice (some ⟨gg, 0, none⟩) ((k + 1) + 1) cap] := by
        have := bg7.out.set 4 (.slice (some ⟨gg, 0, none⟩) ((k + 1) + 1) cap)
        simpa using this
      have how8 := own_turnedB how2 (Turn.setCell w2 (fun j => j = g) ⟨g, 4, none⟩ (.slice (some ⟨gg, 0, none⟩) ((k + 1) + 1) cap) rfl) (own_blk_ne how2 bg7.out (by decide))
      have t7 : Turn (fun j => j = g ∨ (Value.slice (some ⟨b, 0, none⟩) (k + 1) ca).ownBlock = some j) W5 w2 := (Turn.alloc W5 _ (.cells #[.int .i64 id, .int .i64 c] 67)).trans (turn_grown (fun j => j = g ∨ (Value.slice (some ⟨b, 0, none⟩) (k + 1) ca).ownBlock = some j) _ hgrow fun _ q => .inr q) fun _ _ q => q
      have t8 := hide ((t6.out.trans t7 fun _ _ q => q).trans (Turn.setCell w2 (fun j => j = g ∨ (Value.slice (some ⟨b, 0, none⟩) (k + 1) ca).ownBlock = some j) ⟨g, 4, none⟩ (.slice (some ⟨gg, 0, none⟩) ((k + 1) + 1) cap) (.inl rfl)) fun _ _ q => q)
      have bg8 := hide bg8
      have how8 := hide how8
      clear t7
      go_wp2_with fail
      go_ret
      exact ⟨rfl, _, bg8.out, by rw [hsn.out]; exact how8.out, t8.out⟩
end SH
end Go.Proofs.YteebghoijaaakaaGreat
/- The walk of sheet.Read: what it keeps, and what goes over the lines. By the prover of this repo. -/
namespace Go.Proofs.YteebghoijaaakaaGreat
namespace SH
open Go.RowKit
open TwigM RollM StoM VaryM WirM

def linesV (z : Nat) : Value := .func (.func 158) #[] #[.pointer (some ⟨z, 0, none⟩)]
theorem lines_c (s : ByteArray) (w : World) : Calls Tryz.prog 103 #[.string s] w fun e w' => e = .returned (linesV w.heap.size) ∧ w' = w.alloc (.cells #[.string s] 9) := by
  unfold linesV
  go_enter Tryz.func103, Tryz.ntmps103
  go_wp2_with fail
  go_ret
  exact ⟨rfl, rfl⟩
/-- What sheet.lines hands back goes over the text's lines. -/
theorem lines_seq (n : Nat) (hn : 1 ≤ n) (z : Nat) (rows : List (List UInt8)) (h10 : ∀ x ∈ rows, ∀ c ∈ x, c ≠ 10) (hlen : (joinNl rows).length ≤ 100000000) (hrl : rows.length ≤ 1000000) (w : World) (b0 : Boxed w z 9 (.string (str (joinNl rows)))) :
    SeqQ Fence.wide n Tryz.prog 158 #[.pointer (some ⟨z, 0, none⟩)] encN (KeepS z) (fun ys => ys = numb 1 rows) (fun _ => True) (NxL rows) z w := fun l J Jx W hW hJ _ hY h0 =>
  lines1_in n hn l z W.heap.size rows h10 hlen hrl J Jx hJ hY W ((hW.block _ b0.lt).trans b0) h0
theorem keepS_t {z : Nat} {A B C : World} (h : KeepS z A B) (k : KeepS z B C) : KeepS z A C := Eq.trans k h
theorem keepS_b {z n : Nat} (hn : z < n) (W : World) (l : Nat) (_o o' : Obj) (hl : n ≤ l) : KeepS z W (W.putObj l o') := World.putObj_heap_other (by omega)
/-- What sheet.Read keeps. -/
structure RdS (h : Nat) (w0 : World) (L K S : Int) (u : Value) (l : List Nd) (W : World) : Prop where
  d : Blk W h 40 #[.pointer none]
  ln : Blk W (h + 1) 3 #[.int .i64 0]
  e : Blk W (h + 2) 37 #[.int .i64 0]
  r : Blk W (h + 3) 155 #[.int .i64 L, .int .i64 K, .int .i64 0, .int .i64 S, u]
  p : Blk W (h + 4) 153 #[.pointer (some ⟨h + 3, 0, none⟩)]
  row : W.ownsRow (h + 6) 67 2 u l.length (ndv l)
  bel : Below h w0 W
  sz : h + 6 ≤ W.heap.size
section
variable {h : Nat} {w0 : World} {L K S : Int} {u : Value} {l : List Nd} {W W' : World}
theorem RdS.low (k : RdS h w0 L K S u l W) : ∀ j, u.ownBlock = some j → h + 6 ≤ j ∧ j < W.heap.size := fun j hj => k.row.lt j hj
theorem RdS.turned {P : Nat → Prop} (k : RdS h w0 L K S u l W) (t : Turn P W W') (hn : ∀ j, P j → h + 5 ≤ j) (hu : ∀ j, u.ownBlock = some j → ¬ P j) : RdS h w0 L K S u l W' :=
  ⟨k.d.turned t fun e => by have := hn _ e; omega, k.ln.turned t fun e => by have := hn _ e; omega, k.e.turned t fun e => by have := hn _ e; omega, k.r.turned t fun e => by have := hn _ e; omega, k.p.turned t fun e => by have := hn _ e; omega, own_turnedB k.row t hu,
    k.bel.trans (t.below h (by have := k.sz; omega) fun j hj e => by have := hn _ e; omega), by have := t.size; have := k.sz; omega⟩
theorem RdS.kept (k : RdS h w0 L K S u l W) (b : Below W.heap.size W W') : RdS h w0 L K S u l W' := k.turned (Below.turn b fun _ => False) (fun _ q => q.elim) fun _ _ q => q
/-- The reading is changed, and its row. -/
theorem RdS.next {L' K' S' : Int} {u' : Value} {l' : List Nd} (k : RdS h w0 L K S u l W) (t : Turn (fun j => j = h + 3 ∨ u.ownBlock = some j) W W') (hr : Blk W' (h + 3) 155 #[.int .i64 L', .int .i64 K', .int .i64 0, .int .i64 S', u']) (ho : W'.ownsRow (h + 6) 67 2 u' l'.length (ndv l')) : RdS h w0 L' K' S' u' l' W' := by
  have hlow := k.low
  have hn : ∀ j, j < h + 6 → j ≠ h + 3 → ¬ (j = h + 3 ∨ u.ownBlock = some j) := fun j h1 h2 q => by
    rcases q with q | q
    · exact h2 q
    · have := (hlow j q).1; omega
  exact ⟨k.d.turned t (hn _ (by omega) (by omega)), k.ln.turned t (hn _ (by omega) (by omega)), k.e.turned t (hn _ (by omega) (by omega)), hr, k.p.turned t (hn _ (by omega) (by omega)), ho,
    k.bel.trans (t.below h (by have := k.sz; omega) fun j hj => hn j (by omega) (by omega)), by have := t.size; have := k.sz; omega⟩
theorem RdS.own {row : Option Nat} (k : RdS h w0 L K S u l W) (hg : W.grownBy W' row) (hr : ∀ r, row = some r → r = h + 5 ∨ (h + 6 ≤ r ∧ ∃ o : Obj, W.heap[r]? = some o ∧ o.isCells = false)) : RdS h w0 L K S u l W' := by
  refine k.turned (turn_grown (fun j => row = some j) row hg fun _ q => q) (fun j q => ?_) fun j hj q => ?_
  · rcases hr j q with e | e <;> omega
  · have h1 := (k.low j hj).1
    rcases hr j q with e | ⟨-, o, ho, hc⟩
    · omega
    · rcases k.row.2 with ⟨rfl, _⟩ | ⟨g, cap, cur, rfl, _, hg2, _⟩
      · cases hj
      · have e : g = j := Option.some.inj hj
        subst e
        rw [ho] at hg2
        cases hg2
        cases hc
theorem RdS.cells (k : RdS h w0 L K S u l W) : W.cell? ⟨h + 4, 0, none⟩ = some (.pointer (some ⟨h + 3, 0, none⟩)) ∧ h + 4 < W.heap.size ∧ h + 3 < W.heap.size := ⟨k.p.cell 0, by have := k.sz; omega, by have := k.sz; omega⟩
end
theorem turn_from {P : Nat → Prop} {A B : World} {n : Nat} (t : Turn P A B) (hc : ∀ j, P j → ∀ o, A.heap[j]? = some o → o.isCells = true) : KeepsFrom n A B :=
  ⟨t.size, fun k o _ ho hn => (t.block k (Array.getElem?_eq_some_iff.1 ho).1 fun q => by rw [hc k q o ho] at hn; cases hn).trans ho⟩
theorem own_cells {w : World} {base n size : Nat} {e : TypeId} {v : Value} {xs : List Value} (h : w.ownsRow base e size v n xs) : ∀ j, v.ownBlock = some j → ∀ o, w.heap[j]? = some o → o.isCells = true := by
  intro j hj o ho
  rcases h.2 with ⟨rfl, _⟩ | ⟨g, cap, cur, rfl, _, hg2, _⟩
  · cases hj
  · have e : g = j := Option.some.inj hj
    subst e
    rw [hg2] at ho
    cases ho
    rfl
theorem RdS.from {h : Nat} {w0 : World} {L K S : Int} {u : Value} {l : List Nd} {W W' : World} (k : RdS h w0 L K S u l W) (n : Nat) (t : Turn (fun j => j = h + 3 ∨ u.ownBlock = some j) W W') : KeepsFrom n W W' := by
  refine turn_from t fun j hj o ho => ?_
  rcases hj with rfl | hj
  · have := k.r
    unfold Blk at this
    rw [this] at ho
    cases ho
    rfl
  · exact own_cells k.row j hj o ho
theorem RdS.keep {h : Nat} {w0 : World} {L K S : Int} {u : Value} {l : List Nd} {W W' : World} (k : RdS h w0 L K S u l W) (t : Turn (fun j => j = h + 3 ∨ u.ownBlock = some j) W W') : KeepS (h + 5) W W' :=
  t.block _ (by have := k.sz; omega) fun q => by
    rcases q with q | q
    · omega
    · have := (k.low _ q).1; omega
end SH
end Go.Proofs.YteebghoijaaakaaGreat
/- The walk of sheet.Read: the digest of lines that Text told. By the prover of this repo. -/
namespace Go.Proofs.YteebghoijaaakaaGreat
namespace SH
open Go.RowKit
open TwigM RollM StoM VaryM WirM

attribute [local go_sem] Oper.semAt_some

/-- What a round of sheet.Read finds and leaves. -/
def RdI (h : Nat) (w0 : World) (L K : Int) (l : List Nd) (rows : List (List UInt8)) (pre : List NLine) (W : World) : Prop :=
  (pre = [] ∧ RdS h w0 0 0 0 (.slice none 0 0) [] W) ∨ ∃ i u, i ≤ l.length ∧ pre = (numb 1 rows).take (i + 1) ∧ RdS h w0 L K (sumL (l.drop i)) u (l.take i) W
theorem rows_zero {L K : Int} {l : List Nd} : (rowsD L K l)[0]? = some (headL L K (sumL l)) := rfl
theorem rows_succ {L K : Int} {l : List Nd} (i : Nat) : (rowsD L K l)[i + 1]? = (l[i]?).map (nodeL L) := by unfold rowsD; rw [List.getElem?_cons_succ, List.getElem?_map]
theorem rows_len {L K : Int} {l : List Nd} : (rowsD L K l).length = l.length + 1 := by unfold rowsD; simp
theorem results_cells3 {P : Program} {fn : Func} {p q r : Tmp} {ty uy vy : TypeId} (h : fn.results = #[.cell p ty, .cell q uy, .cell r vy]) (tmps : Array Value) (w : World) {a b c : Addr} {v u x : Value} (hp : tmps[p]?.getD undef = .pointer (some a)) (hq : tmps[q]?.getD undef = .pointer (some b)) (hr : tmps[r]?.getD undef = .pointer (some c))
    (i1 : (isAgg ty).run P w = .ok false w) (i2 : (isAgg uy).run P w = .ok false w) (i3 : (isAgg vy).run P w = .ok false w) (ha : w.cell? a = some v) (hb : w.cell? b = some u) (hc : w.cell? c = some x) :
    (results fn tmps).run P w = .ok (.tuple #[v, u, x]) w := by
  simp [results, h, hp, hq, hr, go_sem, i1, i2, i3, ha, hb, hc]
theorem dig_off {w w' : World} {d p : Nat} {K kd L : Int} {l : List Nd} {F S : Nat → Prop} (h : DigAt w d p K kd L l F) (t : Turn S w w') (h1 : ¬ S d) (h2 : ¬ S p) (h3 : ∀ j, F j → ¬ S j) : DigAt w' d p K kd L l F :=
  ⟨h.blk.turned t h1, h.pool.turned t h2 h3, h.ndp, h.ndF, h.k1, h.k2⟩
theorem wp_then_false {P : Program} {c : Code} {K : Act → World → Prop} {Q : Exit → Act → World → Prop} {a : Act} {w : World} (h : c.wp P (Exit.then K fun _ _ _ => False) a w) : c.wp P (Exit.then K Q) a w :=
  wp_mono h fun e a w h => by cases e <;> first | exact h | exact h.elim
theorem set_other (C : World) (j i : Nat) (v : Value) (h : j ≠ i) : (C.setCell ⟨j, 0, none⟩ v).heap[i]? = C.heap[i]? := by
  show (C.heap.modify j _)[i]? = _
  rw [Array.getElem?_modify, if_neg h]
/-- What sheet.Read has at its end. -/
structure RdE (h B : Nat) (w0 : World) (d p : Nat) (K kd L : Int) (l : List Nd) (F : Nat → Prop) (x : Value) (W : World) : Prop where
  dd : Blk W h 40 #[x]
  ln : Blk W (h + 1) 3 #[.int .i64 0]
  ee : Blk W (h + 2) 37 #[.int .i64 0]
  dig : DigAt W d p K kd L l F
  ge : B ≤ d ∧ B ≤ p ∧ ∀ j, F j → B ≤ j
  hB : h + 6 ≤ B
  bel : Below h w0 W
theorem RdE.set {h B : Nat} {w0 W : World} {d p : Nat} {K kd L : Int} {l : List Nd} {F : Nat → Prop} {x : Value} (k : RdE h B w0 d p K kd L l F x W) (y : Value) : RdE h B w0 d p K kd L l F y ((W.setCell ⟨h, 0, none⟩ y).setCell ⟨h + 2, 0, none⟩ (.int .i64 0)) := by
  obtain ⟨g1, g2, g3⟩ := k.ge
  have gB := k.hB
  have t : Turn (fun j => j = h ∨ j = h + 2) W ((W.setCell ⟨h, 0, none⟩ y).setCell ⟨h + 2, 0, none⟩ (.int .i64 0)) := (Turn.setCell W (fun j => j = h ∨ j = h + 2) ⟨h, 0, none⟩ y (.inl rfl)).trans (Turn.setCell _ (fun j => j = h ∨ j = h + 2) ⟨h + 2, 0, none⟩ (.int .i64 0) (.inr rfl)) fun _ _ q => q
  refine ⟨?_, k.ln.turned t (by omega), ?_, dig_off k.dig t (by omega) (by omega) fun j hj => by have := g3 j hj; omega, k.ge, k.hB, ?_⟩
  · have := (k.dd.set 0 y).off (p := ⟨h + 2, 0, none⟩) (by show h ≠ h + 2; omega) (.int .i64 0)
    simpa using this
  · have := (k.ee.off (p := ⟨h, 0, none⟩) (by show h + 2 ≠ h; omega) y).set 0 (.int .i64 0)
    simpa using this
  · exact (k.bel.setCell (p := ⟨h, 0, none⟩) (Nat.le_refl _) _).setCell (p := ⟨h + 2, 0, none⟩) (by show h ≤ h + 2; omega) _
theorem RdE.all {h B : Nat} {w0 W : World} {d p : Nat} {K kd L : Int} {l : List Nd} {F : Nat → Prop} {x : Value} (k : RdE h B w0 d p K kd L l F x W) (y : Value) : RdE h B w0 d p K kd L l F y (((W.setCell ⟨h, 0, none⟩ y).setCell ⟨h + 1, 0, none⟩ (.int .i64 0)).setCell ⟨h + 2, 0, none⟩ (.int .i64 0)) := by
  obtain ⟨g1, g2, g3⟩ := k.ge
  have gB := k.hB
  have t : Turn (fun j => j = h ∨ j = h + 1 ∨ j = h + 2) W (((W.setCell ⟨h, 0, none⟩ y).setCell ⟨h + 1, 0, none⟩ (.int .i64 0)).setCell ⟨h + 2, 0, none⟩ (.int .i64 0)) := ((Turn.setCell W (fun j => j = h ∨ j = h + 1 ∨ j = h + 2) ⟨h, 0, none⟩ y (.inl rfl)).trans (Turn.setCell _ (fun j => j = h ∨ j = h + 1 ∨ j = h + 2) ⟨h + 1, 0, none⟩ (.int .i64 0) (.inr (.inl rfl))) fun _ _ q => q).trans (Turn.setCell _ (fun j => j = h ∨ j = h + 1 ∨ j = h + 2) ⟨h + 2, 0, none⟩ (.int .i64 0) (.inr (.inr rfl))) fun _ _ q => q
  refine ⟨?_, ?_, ?_, dig_off k.dig t (by omega) (by omega) fun j hj => by have := g3 j hj; omega, k.ge, k.hB, ?_⟩
  · have := ((k.dd.set 0 y).off (p := ⟨h + 1, 0, none⟩) (by show h ≠ h + 1; omega) (.int .i64 0)).off (p := ⟨h + 2, 0, none⟩) (by show h ≠ h + 2; omega) (.int .i64 0)
    simpa using this
  · have := ((k.ln.off (p := ⟨h, 0, none⟩) (by show h + 1 ≠ h; omega) y).set 0 (.int .i64 0)).off (p := ⟨h + 2, 0, none⟩) (by show h + 1 ≠ h + 2; omega) (.int .i64 0)
    simpa using this
  · have := ((k.ee.off (p := ⟨h, 0, none⟩) (by show h + 2 ≠ h; omega) y).off (p := ⟨h + 1, 0, none⟩) (by show h + 2 ≠ h + 1; omega) (.int .i64 0)).set 0 (.int .i64 0)
    simpa using this
  · exact ((k.bel.setCell (p := ⟨h, 0, none⟩) (Nat.le_refl _) _).setCell (p := ⟨h + 1, 0, none⟩) (by show h ≤ h + 1; omega) _).setCell (p := ⟨h + 2, 0, none⟩) (by show h ≤ h + 2; omega) _
theorem RdE.put {h B D : Nat} {w0 W : World} {d p : Nat} {K kd L : Int} {l : List Nd} {F : Nat → Prop} {x : Value} (k : RdE h B w0 d p K kd L l F x W) (h1 : h + 6 ≤ D) (h2 : D < B) (o : Obj) : RdE h B w0 d p K kd L l F x (W.putObj D o) := by
  obtain ⟨g1, g2, g3⟩ := k.ge
  have t := turn_grown (fun j => j = D) (some D) (grownBy_putObj' W D o) fun j e => (Option.some.inj e).symm
  exact ⟨k.dd.turned t (by omega), k.ln.turned t (by omega), k.ee.turned t (by omega), dig_off k.dig t (by omega) (by omega) fun j hj => by have := g3 j hj; omega, k.ge, k.hB, k.bel.trans (t.below h (Nat.le_of_lt k.dd.lt) fun j hj e => by omega)⟩
set_option maxRecDepth 100000 in
set_option maxHeartbeats 4000000 in
theorem sheet_read (L K kd : Int) (l : List Nd) (w : World) (hc : Canon l) (hu : InU L l) (hL1 : 1 ≤ L) (hL2 : L ≤ 48) (hK1 : 1 ≤ K) (hK2 : K ≤ 1048576) (hS2 : sumL l ≤ 72057594037927935) (hroom : (l.length : Int) ≤ 8 * K) (hlen : l.length ≤ 5000) (hro : rollB L l = true) (hwf : NdWf l) (hlight : lightB L (sumL l / K) l = true) (hld : loadB L K kd l = true) :
    Calls Tryz.prog 61 #[.string ⟨(textL L K l).toArray⟩, .int .i64 kd] w fun e w' => ∃ d p F, e = .returned (.tuple #[.pointer (some ⟨d, 0, none⟩), .int .i64 0, .int .i64 0]) ∧ DigAt w' d p K kd L l F ∧ w.heap.size ≤ d ∧ w.heap.size ≤ p ∧ (∀ j, F j → w.heap.size ≤ j) ∧ Below w.heap.size w w' := by
  have hs0 := sumL_nonneg l hc.cntL
  have htx := text_rows (L := L) (K := K) hL1 (by omega) hu (fun p hp => by have := hc.cnt p hp; omega)
  have hjl : (joinNl (rowsD L K l)).length ≤ 101 * (l.length + 1) := by
    rw [← rows_len (L := L) (K := K)]
    refine joinNl_len fun x hx => ?_
    unfold rowsD at hx
    rcases List.mem_cons.1 hx with rfl | hx
    · exact headL_len (by omega) (by omega) (by omega)
    · obtain ⟨p, hp, rfl⟩ := List.mem_map.1 hx
      obtain ⟨u1, u2⟩ := hu p hp
      obtain ⟨y1, y2, y3, y4⟩ := ends_pos hL1 u1 u2
      have := pw_le48 hL2
      have := sumL_le l hc.cntL p hp
      exact line3_len (by omega) (by omega) (by omega) ⟨by decide, by decide, by decide⟩
  have hne : ((str (joinNl (rowsD L K l))).toList == []) = false := str_nil_ne (by unfold rowsD joinNl headL line3; simp [sDigest])
  have hrl : (rowsD L K l).length = l.length + 1 := rows_len
  rw [show (⟨(textL L K l).toArray⟩ : ByteArray) = str (joinNl (rowsD L K l)) by rw [htx]; rfl]
  have hLn := hide (fun W => lines_c (str (joinNl (rowsD L K l))) W)
  have hSq := hide (fun n hn z W b0 => lines_seq n hn z (rowsD L K l) rows_no10 (by omega) (by omega) W b0)
  have hr0 := hide (rows_zero (L := L) (K := K) (l := l))
  have hrS := hide (fun i => rows_succ (L := L) (K := K) (l := l) i)
  generalize rowsD L K l = rows at *
  generalize hTT : str (joinNl rows) = TT at *
  clear htx hjl
  replace hTT := hide hTT
  refine (callsIn_wide (n := 9)).1 ?_
  refine callsIn_of_wp_marks Tryz.func61 rfl trivial ?_ rfl
  simp only [Tryz.ntmps61, List.size_toArray, List.length_cons, List.length_nil, Nat.reduceAdd, Nat.reduceSub, Array.replicate_succ, Array.replicate_zero, List.push_toArray, List.append_toArray, List.nil_append, List.cons_append]
  gi_wp2_with (refine ⟨trivial, ?_⟩; (gi_at_call 103; refine (callsIn_wide.2 (hLn.out _)).mono ?_; rintro e w1 ⟨rfl, rfl⟩))
  obtain ⟨h, hh⟩ : ∃ h, w.heap.size = h := ⟨_, rfl⟩
  have b0 := hide (Boxed.new (((((w.alloc (.cells #[.pointer none] 40)).alloc (.cells #[.int .i64 0] 3)).alloc (.cells #[.int .i64 0] 37)).alloc (.cells #[.int .i64 0, .int .i64 0, .int .i64 0, .int .i64 0, .slice none 0 0] 155)).alloc (.cells #[.pointer (some ⟨w.heap.size + 1 + 1 + 1, 0, none⟩)] 153)) 9 (.string TT))
  have hW0 : Hid (RdS h w 0 0 0 (.slice none 0 0) [] ((((((w.alloc (.cells #[.pointer none] 40)).alloc (.cells #[.int .i64 0] 3)).alloc (.cells #[.int .i64 0] 37)).alloc (.cells #[.int .i64 0, .int .i64 0, .int .i64 0, .int .i64 0, .slice none 0 0] 155)).alloc (.cells #[.pointer (some ⟨w.heap.size + 1 + 1 + 1, 0, none⟩)] 153)).alloc (.cells #[.string TT] 9))) := by
    rw [hh]
    have z0 : (w.alloc (.cells #[.pointer none] 40)).heap.size = h + 1 := by simp [hh]
    refine ⟨?_, ?_, ?_, ?_, ?_, World.ownsRow_nil _ _ _ _, ?_, ?_⟩
    · rw [← hh]; exact (((((Blk.made w _ _).alloc _).alloc _).alloc _).alloc _).alloc _
    · exact ((((Blk.made_at _ _ _ (by simp [hh])).alloc _).alloc _).alloc _).alloc _
    · exact (((Blk.made_at _ _ _ (by simp [hh])).alloc _).alloc _).alloc _
    · exact ((Blk.made_at _ _ _ (by simp [hh])).alloc _).alloc _
    · exact (Blk.made_at _ _ _ (by simp [hh])).alloc _
    · rw [← hh]; exact balloc (balloc (balloc (balloc (balloc (balloc0 w _) _) _) _) _) _
    · simp [hh]
  rw [hh] at b0 hW0 ⊢
  simp only [Nat.add_assoc, Nat.reduceAdd] at b0 hW0 ⊢
  simp only [World.size_alloc, hh, Nat.add_assoc, Nat.reduceAdd] at b0
  have hWz : Hid (((((((w.alloc (.cells #[.pointer none] 40)).alloc (.cells #[.int .i64 0] 3)).alloc (.cells #[.int .i64 0] 37)).alloc (.cells #[.int .i64 0, .int .i64 0, .int .i64 0, .int .i64 0, .slice none 0 0] 155)).alloc (.cells #[.pointer (some ⟨h + 3, 0, none⟩)] 153)).alloc (.cells #[.string TT] 9)).heap.size = h + 6) := by show _ = _; simp [hh]
  generalize ((((((w.alloc (.cells #[.pointer none] 40)).alloc (.cells #[.int .i64 0] 3)).alloc (.cells #[.int .i64 0] 37)).alloc (.cells #[.int .i64 0, .int .i64 0, .int .i64 0, .int .i64 0, .slice none 0 0] 155)).alloc (.cells #[.pointer (some ⟨h + 3, 0, none⟩)] 153)).alloc (.cells #[.string TT] 9)) = W0 at *
  have hWz0 := hWz.out
  refine range_cellq rfl (by omega) (gf := 158) (lb := #[.pointer (some ⟨h + 5, 0, none⟩)]) rfl trivial (enters_of Tryz.func158 (by kernel_rfl) rfl)
    (Bs := h + 5) (by omega) (hSq.out (9 - 1) (by omega) (h + 5) W0 b0.out) keepS_t (fun W l o o' hl _ _ _ => keepS_b (by omega) W l o o' hl) (fun _ => rfl)
    (RdI h w L K l rows) (fun _ _ _ => False)
    (fun pre A C row hs hg hr => by
      have hr' : ∀ r, row = some r → r = h + 5 ∨ (h + 6 ≤ r ∧ ∃ o : Obj, A.heap[r]? = some o ∧ o.isCells = false) := fun r e => by rw [← hWz0]; exact hr r e
      rcases hs with ⟨e, q⟩ | ⟨i, u, e1, e2, q⟩
      · exact .inl ⟨e, q.own hg hr'⟩
      · exact .inr ⟨i, u, e1, e2, q.own hg hr'⟩)
    (fun c pre A C row hs hg hr => hs)
    (.inl ⟨rfl, hW0.out⟩)
    (fun x => { tmps := ((.string TT : Value) :: (.int .i64 kd : Value) :: undef :: undef :: (.pointer (some ⟨h, 0, none⟩) : Value) :: (.pointer (some ⟨h + 1, 0, none⟩) : Value) :: (.pointer (some ⟨h + 2, 0, none⟩) : Value) :: (.pointer (some ⟨h + 4, 0, none⟩) : Value) :: (.int .i64 (x.1 : Int) : Value) :: (.string (str x.2) : Value) :: undef :: undef :: (.agg #[.int .i64 0, .int .i64 0, .int .i64 0, .int .i64 0, .slice none 0 0] : Value) :: (.pointer (some ⟨h + 3, 0, none⟩) : Value) :: (.string TT : Value) :: (.bool false : Value) :: (.string TT : Value) :: linesV (h + 5) :: (.int .i64 (x.1 : Int) : Value) :: (.string (str x.2) : Value) :: undef :: undef :: undef :: undef :: undef :: undef :: undef :: undef :: undef :: undef :: undef :: undef :: undef :: undef :: undef :: undef :: undef :: undef :: undef :: undef :: undef :: undef :: undef :: undef :: undef :: undef :: undef :: undef :: undef :: undef :: undef :: undef :: undef :: undef :: undef :: []).toArray, defers := [] }) ?assign ?body ?done ?stop
  case assign =>
    intro l x W K hK
    dsimp only [encN]
    gi_wp2
    exact hK
  case body =>
    rintro lp pre x W hI ⟨j, hj, hpre, hx⟩
    clear hW0 b0
    have hx2 := numb_one hj
    rw [hx] at hx2
    obtain rfl := Option.some.inj hx2
    have hrj : rows[j]? = some rows[j] := List.getElem?_eq_getElem hj
    rcases hI with ⟨hp0, hR⟩ | ⟨i, u, hi, hpi, hR⟩
    · have hj0 : j = 0 := by
        have := congrArg List.length (hpre.symm.trans hp0)
        rw [List.length_take, numb_len, Nat.min_eq_left (by omega)] at this
        exact this
      subst hj0
      have hstep := numb_step hj
      rw [hr0.out] at hrj
      have hrj := Option.some.inj hrj
      rw [← hrj] at hstep
      have hH := hide (head_c (h + 3) L K (sumL l) W hR.r hL1 hL2 hK1 hK2 hs0 hS2)
      obtain ⟨k0, k1, k2⟩ := hR.cells
      simp only [Nat.add_zero]
      rw [← hrj]
      have hH2 := hide (fun W1 (b : Blk W1 (h + 3) 155 _) (t1 : Turn (fun j => j = h + 3) W W1) => hR.next (t1.more fun _ _ q => .inl q) b (World.ownsRow_nil _ _ _ _) (L' := L) (K' := K) (S' := sumL l) (u' := .slice none 0 0) (l' := []))
      have hK1 := hide (fun W1 (t1 : Turn (fun j => j = h + 3) W W1) => And.intro (hR.from W0.heap.size (t1.more fun _ _ q => .inl q)) (hR.keep (t1.more fun _ _ q => .inl q)))
      generalize headL L K (sumL l) = hd at *
      have hpre := hide hpre
      have hp0 := hide hp0
      have hstep := hide hstep
      clear hR hSq hLn hrS hx hx2 hrj hr0
      rw [show (((1 : Nat)) : Int) = 1 from rfl]
      gi_wp2_with (refine ⟨trivial, ?_⟩; (gi_at_call 104; refine (CallsIn.inRound lp (callsIn_wide.2 hH.out)).mono ?_; rintro e w1 ⟨rfl, hb1, ht1⟩))
      refine ⟨(hK1.out _ ht1).1, (hK1.out _ ht1).2, .inr ⟨0, .slice none 0 0, by omega, ?_, ?_⟩⟩
      · rw [hp0.out, hstep.out]; rfl
      · rw [List.drop_zero, List.take_zero]; exact hH2.out _ hb1 ht1
    · have hji : j = i + 1 := by
        have := congrArg List.length (hpre.symm.trans hpi)
        rw [List.length_take, numb_len, Nat.min_eq_left (by omega), List.length_take, numb_len, Nat.min_eq_left (by omega)] at this
        exact this
      subst hji
      have hil : i < l.length := by omega
      have hstep := numb_step hj
      rw [hrS.out i, List.getElem?_eq_getElem hil] at hrj
      have hrj := Option.some.inj hrj
      rw [← hrj] at hstep
      obtain ⟨u1, u2⟩ := hu _ (List.getElem_mem hil)
      have hcp := hc.cnt _ (List.getElem_mem hil)
      have hdr : sumL (l.drop i) = l[i].2 + sumL (l.drop (i + 1)) := by rw [List.drop_eq_getElem_cons hil]; rfl
      have hrest := sumL_nonneg (l.drop (i + 1)) fun p hp => hc.cntL p (List.mem_of_mem_drop hp)
      have htot : sumL (l.drop i) ≤ sumL l := by
        have h3 := sumL_append (l.take i) (l.drop i)
        rw [List.take_append_drop] at h3
        have h4 := sumL_nonneg (l.take i) fun p hp => hc.cntL p (List.mem_of_mem_take hp)
        omega
      have hlast : ∀ q ∈ l.take i, q.1 < l[i].1 := by
        intro q hq
        obtain ⟨m, hm, rfl⟩ := List.getElem_of_mem hq
        rw [List.length_take] at hm
        rw [List.getElem_take]
        exact List.pairwise_iff_getElem.1 hc.rise m i (by omega) hil (by omega)
      have hH := node_c (h + 6) (h + 3) L K (sumL (l.drop i)) u (l.take i) l[i] W hR.r hR.row hR.sz hL1 hL2 u1 u2 (by omega) (by omega) (by omega) hlast (by rw [List.length_take]; omega)
      rw [show sumL (l.drop i) - l[i].2 = sumL (l.drop (i + 1)) by omega, ← List.take_succ_eq_append_getElem hil, show (l.take i).length + 1 = (l.take (i + 1)).length by rw [List.length_take, List.length_take]; omega] at hH
      replace hH := hide hH
      obtain ⟨k0, k1, k2⟩ := hR.cells
      have hH2 := hide (fun W1 u' (b : Blk W1 (h + 3) 155 _) (ho : W1.ownsRow (h + 6) 67 2 u' _ _) (t1 : Turn (fun j => j = h + 3 ∨ u.ownBlock = some j) W W1) => hR.next t1 b ho (L' := L) (K' := K) (S' := sumL (l.drop (i + 1))) (u' := u') (l' := l.take (i + 1)))
      have hK1 := hide (fun W1 (t1 : Turn (fun j => j = h + 3 ∨ u.ownBlock = some j) W W1) => And.intro (hR.from W0.heap.size t1) (hR.keep t1))
      simp only
      rw [← hrj]
      have hq : ((((1 + (i + 1) : Nat) : Int)) == 1) = false := by simp; omega
      generalize ((1 + (i + 1) : Nat) : Int) = qn at *
      generalize nodeL L l[i] = hd at *
      have hpre := hide hpre
      have hstep := hide hstep
      clear hR hSq hLn hrS hlast hrj hx hx2 hr0 hpi hdr
      gi_wp2_with (refine ⟨trivial, ?_⟩; (gi_at_call 105; refine (CallsIn.inRound lp (callsIn_wide.2 hH.out)).mono ?_; rintro e w1 ⟨rfl, u', hb1, ho1, ht1⟩))
      refine ⟨(hK1.out _ ht1).1, (hK1.out _ ht1).2, .inr ⟨i + 1, u', by omega, ?_, hH2.out _ _ hb1 ho1 ht1⟩⟩
      rw [hpre.out, hstep.out]
  case done =>
    rintro D ys W hD hys hI hK
    obtain ⟨u, hR⟩ : ∃ u, RdS h w L K 0 u l W := by
      rcases hI with ⟨e, -⟩ | ⟨i, u, hi, e, q⟩
      · have := congrArg List.length (hys.symm.trans e)
        rw [numb_len, hrl] at this
        exact absurd this (by simp)
      · have h1 := congrArg List.length (hys.symm.trans e)
        rw [List.length_take, numb_len] at h1
        have h2 : i = l.length := by omega
        subst h2
        rw [List.drop_of_length_le (Nat.le_refl _), List.take_of_length_le (Nat.le_refl _)] at q
        exact ⟨u, q⟩
    clear hI hys hSq hLn hr0 hrS hW0 b0
    obtain ⟨A, c, rfl⟩ := own_len hR.row
    have hE := hide (end_c (h + 6) (h + 3) L K (.slice A l.length c) l W hR.r hR.row hL1 hL2 hK1 hK2 hwf hro hroom hlight (by omega))
    have hLd := hide (fun W1 (hr : Rd W1 A l.length 2 (ndc l)) => digest_load L K kd A c l W1 hr (by omega) hwf hld)
    unfold conf at hLd
    have hRk := hide (fun W1 (b : Below W.heap.size W W1) => hR.kept b)
    obtain ⟨k0, k1, k2⟩ := hR.cells
    have hRz := hR.sz
    have hDW := (Array.getElem?_eq_some_iff.1 hK).1
    have hK := hide hK
    obtain ⟨n, hn⟩ : ∃ n, Hid (l.length = n) := ⟨_, rfl⟩
    rw [hn.out] at hLd hRk
    clear hR hc hu hwf hro hlight hld hs0 hroom hlen hrl hne
    gi_wp2_with (refine ⟨trivial, ?_⟩; (gi_at_call 106; refine (callsIn_wide.2 hE.out).mono ?_; rintro e w1 ⟨rfl, hb1⟩; have R1 := hRk.out w1 hb1; have hb1 := hide hb1; have j0 := R1.cells; obtain ⟨j0, j1, j2⟩ := j0; have j3 : w1.cell? ⟨h + 3, 2, none⟩ = some (.int .i64 0) := R1.r.cell 2; have j4 := R1.r.free 2))
    have t2 := Turn.setCell w1 (fun j => j = h + 3) ⟨h + 3, 2, none⟩ (.int .i64 kd) rfl
    have qd := hide (R1.d.turned t2 (by omega))
    have ql := hide (R1.ln.turned t2 (by omega))
    have qe := hide (R1.e.turned t2 (by omega))
    have qp := hide (R1.p.turned t2 (by omega))
    have qr : Hid (Blk (w1.setCell ⟨h + 3, 2, none⟩ (.int .i64 kd)) (h + 3) 155 #[.int .i64 L, .int .i64 K, .int .i64 kd, .int .i64 0, .slice A n c]) := by
      have := R1.r.set 2 (.int .i64 kd)
      show Blk _ _ _ _
      simpa using this
    have qo := hide (own_turnedB R1.row t2 (own_blk_ne R1.row R1.r (by decide)))
    have qb := hide (R1.bel.setCell (p := ⟨h + 3, 2, none⟩) (by show h ≤ h + 3; omega) (.int .i64 kd))
    have hz1 := hb1.out.size
    have hDk : Hid ((w1.setCell ⟨h + 3, 2, none⟩ (.int .i64 kd)).heap[D]? = some (.deferred (some []))) := by
      show _ = _
      rw [t2.block D (by omega) (by omega), hb1.out.block D hDW]
      exact hK.out
    have hz2 : h + 6 ≤ (w1.setCell ⟨h + 3, 2, none⟩ (.int .i64 kd)).heap.size := by have := R1.sz; simpa using this
    have hD2 : D < (w1.setCell ⟨h + 3, 2, none⟩ (.int .i64 kd)).heap.size := by simp; omega
    clear R1 t2 j0 j1 j2 j3 j4 hb1 hE hRk k0 k1 k2 hK
    generalize w1.setCell ⟨h + 3, 2, none⟩ (.int .i64 kd) = W2 at *
    have c0 : W2.cell? ⟨h + 3, 0, none⟩ = some (.int .i64 L) := qr.out.cell 0
    have c1 : W2.cell? ⟨h + 3, 1, none⟩ = some (.int .i64 K) := qr.out.cell 1
    have c2 : W2.cell? ⟨h + 3, 2, none⟩ = some (.int .i64 kd) := qr.out.cell 2
    have c3 : W2.cell? ⟨h + 3, 4, none⟩ = some (.slice A n c) := qr.out.cell 4
    have c4 := qr.out.lt
    have c5 : W2.cell? ⟨h + 4, 0, none⟩ = some (.pointer (some ⟨h + 3, 0, none⟩)) := qp.out.cell 0
    have c6 := qp.out.lt
    have qo2 := qo.out
    rw [hn.out] at qo2
    have hrd := hide (own_rdn qo2 hn.out)
    clear qo2
    have hhz : h ≤ W2.heap.size := by omega
    refine wpIn_wide.2 (wp_then_false ?_)
    go_region_with (go_at_call 57; (with_reducible refine (hLd.out _ (hrd.out.kept (Below.refl _ _).drew)).mono ?_); rintro e w3 ⟨d', p', F', rfl, hd3, g1, g2, g3, hb3⟩; replace hb3 := (Below.refl _ _).drew.trans hb3; have E3 : RdE h W2.heap.size w d' p' K kd L l F' (.pointer none) w3 := ⟨qd.out.kept hb3, ql.out.kept hb3, qe.out.kept hb3, hd3, ⟨g1, g2, g3⟩, hz2, qb.out.trans (hb3.mono hhz)⟩; have E3 := hide E3; have hDk3 := hide ((hb3.block D hD2).trans hDk.out); have x0 := E3.out.dd.lt; have x1 := E3.out.dd.free 0; have x2 : w3.cell? ⟨h, 0, none⟩ = some (.pointer none) := E3.out.dd.cell 0; have x3 := E3.out.ee.lt; have x4 := E3.out.ee.free 0; have x5 : w3.cell? ⟨h + 2, 0, none⟩ = some (.int .i64 0) := E3.out.ee.cell 0; have hb3 := hide hb3; clear hd3 g1 g2 g3)
    all_goals
      have E4 := hide (E3.out.set (.pointer (some ⟨d', 0, none⟩)))
      have hDk4 : Hid (((w3.setCell ⟨h, 0, none⟩ (.pointer (some ⟨d', 0, none⟩))).setCell ⟨h + 2, 0, none⟩ (.int .i64 0)).heap[D]? = some (.deferred (some []))) := ((set_other _ (h + 2) D _ (by omega)).trans (set_other w3 h D _ (by omega))).trans hDk3.out
      clear E3 hDk3 x0 x1 x2 x3 x4 x5 hb3
      generalize (w3.setCell ⟨h, 0, none⟩ (.pointer (some ⟨d', 0, none⟩))).setCell ⟨h + 2, 0, none⟩ (.int .i64 0) = W4 at *
      have x0 := E4.out.dd.lt
      have x1 := E4.out.dd.free 0
      have x2 : W4.cell? ⟨h, 0, none⟩ = some (.pointer (some ⟨d', 0, none⟩)) := E4.out.dd.cell 0
      have x3 := E4.out.ee.lt
      have x4 := E4.out.ee.free 0
      have x5 : W4.cell? ⟨h + 2, 0, none⟩ = some (.int .i64 0) := E4.out.ee.cell 0
      have x6 := E4.out.ln.lt
      have x7 := E4.out.ln.free 0
      have x8 : W4.cell? ⟨h + 1, 0, none⟩ = some (.int .i64 0) := E4.out.ln.cell 0
      gi_wp2
      refine wpIn_wide.2 (wp_then_false ?_)
      go_region
      all_goals
        have E5 := hide (E4.out.all (.pointer (some ⟨d', 0, none⟩)))
        have hDk5 : Hid ((((W4.setCell ⟨h, 0, none⟩ (.pointer (some ⟨d', 0, none⟩))).setCell ⟨h + 1, 0, none⟩ (.int .i64 0)).setCell ⟨h + 2, 0, none⟩ (.int .i64 0)).heap[D]? = some (.deferred (some []))) := (((set_other _ (h + 2) D _ (by omega)).trans (set_other _ (h + 1) D _ (by omega))).trans (set_other W4 h D _ (by omega))).trans hDk4.out
        clear E4 hDk4 x0 x1 x2 x3 x4 x5 x6 x7 x8
        generalize ((W4.setCell ⟨h, 0, none⟩ (.pointer (some ⟨d', 0, none⟩))).setCell ⟨h + 1, 0, none⟩ (.int .i64 0)).setCell ⟨h + 2, 0, none⟩ (.int .i64 0) = W5 at *
        gi_wp2
        refine ⟨by simp, .inl ⟨_, _, rfl, run_takeDeferred hDk5.out, ?_⟩⟩
        have E6 := E5.out.put (D := D) (by omega) hD2 (.deferred none)
        obtain ⟨g1, g2, g3⟩ := E6.ge
        have q0 : (W5.putObj D (.deferred none)).cell? ⟨h, 0, none⟩ = some (.pointer (some ⟨d', 0, none⟩)) := E6.dd.cell 0
        have q1 : (W5.putObj D (.deferred none)).cell? ⟨h + 1, 0, none⟩ = some (.int .i64 0) := E6.ln.cell 0
        have q2 : (W5.putObj D (.deferred none)).cell? ⟨h + 2, 0, none⟩ = some (.int .i64 0) := E6.ee.cell 0
        exact ⟨_, results_cells3 Tryz.results61 _ _ rfl rfl rfl (by kernel_rfl) (by kernel_rfl) (by kernel_rfl) q0 q1 q2, d', p', F', rfl, dig_off E6.dig (S := fun _ => False) ⟨rfl, rfl, rfl, Nat.le_refl _, fun _ _ _ => rfl⟩ (fun q => q) (fun q => q) (fun _ _ q => q), by rw [hh]; omega, by rw [hh]; omega, fun j hj => by have := g3 j hj; rw [hh]; omega, by rw [hh]; exact below_drewN E6.bel 1⟩
  case stop =>
    rintro D c pre W hD hSp hf hK
    exact hf.elim
end SH
end Go.Proofs.YteebghoijaaakaaGreat

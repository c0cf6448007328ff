/- The walks of layer 10's reference, on: poured, as an image, in a greater universe; whether two are the same. By the prover of this repo. -/
import Derived.Test.YtkjihbaiofocgaaBagD
import Derived.Test.YtkjihbaiofocgaaBagN
namespace Go.Proofs.Ytkjihbaiofocgaa
open Go.RowKit
attribute [local go_sem ↓] Go.wp_at_zero Go.wp_at_succ
open TwigM BagM

set_option maxRecDepth 100000 in
theorem rsame_c (L M : Int) (l m : List Rg) (u v : Value) (w : World) (hu : Nds w u l) (hv : Nds w v m) (hl : l.length ≤ 1000000) (hm : m.length ≤ 1000000) :
    Calls Try.prog 29 #[rb L u, rb M v] w fun e w' => e = .returned (.bool (decide (L = M ∧ l = m))) ∧ Below w.heap.size w w' := by
  have hb0 : Below w.heap.size w ((w.alloc (.cells #[.int .i64 L, u] 29)).alloc (.cells #[.int .i64 M, v] 29)) := balloc (balloc0 _ _) _
  have hS := hide (same_n l m _ u v hl hm (hu.kept hb0) (hv.kept hb0))
  obtain ⟨A, c, rfl, -, -, -, -⟩ := hu
  obtain ⟨B, d, rfl, -, -, -, -⟩ := hv
  by_cases hL : L = M
  · subst hL
    have hD : Hid (decide (L = L ∧ l = m) = decide (l = m)) := by show _ = _; simp
    rw [hD.out]
    generalize decide (l = m) = G at *
    generalize l.length = n at *
    generalize m.length = k at *
    clear hb0
    go_enter Try.func29, Try.ntmps29
    go_wp2_with (go_at_call 34; (with_reducible refine hS.out.mono ?_); rintro e w1 ⟨rfl, hb1⟩)
    go_ret
    exact ⟨rfl, bthen (balloc (balloc0 _ _) _) hb1⟩
  · have hD : Hid (decide (L = M ∧ l = m) = false) := decide_eq_false fun k => hL k.1
    rw [hD.out]
    have hne : (L == M) = false := by simpa using hL
    generalize l.length = n at *
    generalize m.length = k at *
    clear hS hb0 hL
    go_enter Try.func29, Try.ntmps29
    go_wp2_with fail
    go_ret
    exact ⟨rfl, balloc (balloc0 _ _) _⟩

set_option maxRecDepth 100000 in
theorem rwider_c (M : Int) (L : Int) (l : List Rg) (v : Value) (w : World) (hv : Nds w v l) (hvb : ∀ j, v.ownBlock = some j → j < w.heap.size) :
    Calls Try.prog 27 #[rb L v, .int .i64 M] w fun e w' => Below w.heap.size w w' ∧ ((¬ (M < L ∨ 48 < M) ∧ e = .returned (.tuple #[rb M v, .int .i64 0]) ∧ Nds w' v l) ∨ ((M < L ∨ 48 < M) ∧ e = .returned (.tuple #[rb 0 (.slice none 0 0), .int .i64 2]))) := by
  have hkept := hide (fun W (hW : Below w.heap.size w W) => hv.kept hW)
  obtain ⟨A, c, rfl, -, -, -, -⟩ := hv
  generalize l.length = n at *
  by_cases h1 : M < L
  · clear hvb
    refine Calls.mono (R := fun e w' => Below w.heap.size w w' ∧ e = .returned (.tuple #[rb 0 (.slice none 0 0), .int .i64 2])) ?_ fun e w' h => ⟨h.1, .inr ⟨.inl h1, h.2⟩⟩
    go_enter Try.func27, Try.ntmps27
    go_wp2_with fail
    exact bodyPost_ret (v := .tuple #[rb 0 (.slice none 0 0), .int .i64 2]) (by simp [results, Try.results27, go_sem]) rfl ⟨balloc (balloc0 _ _) _, rfl⟩
  · by_cases h2 : 48 < M
    · clear hvb
      refine Calls.mono (R := fun e w' => Below w.heap.size w w' ∧ e = .returned (.tuple #[rb 0 (.slice none 0 0), .int .i64 2])) ?_ fun e w' h => ⟨h.1, .inr ⟨.inr h2, h.2⟩⟩
      go_enter Try.func27, Try.ntmps27
      go_wp2_with fail
      exact bodyPost_ret (v := .tuple #[rb 0 (.slice none 0 0), .int .i64 2]) (by simp [results, Try.results27, go_sem]) rfl ⟨balloc (balloc0 _ _) _, rfl⟩
    · refine Calls.mono (R := fun e w' => Below w.heap.size w w' ∧ e = .returned (.tuple #[rb M (.slice A n c), .int .i64 0])) ?_ fun e w' h => ⟨h.1, .inl ⟨by omega, h.2, hkept.out _ h.1⟩⟩
      clear hvb
      go_enter Try.func27, Try.ntmps27
      go_wp2_with fail
      exact bodyPost_ret (v := .tuple #[rb M (.slice A n c), .int .i64 0]) (by simp [results, Try.results27, go_sem]) rfl ⟨balloc (balloc0 _ _) _, rfl⟩

/-- What a round of the reference's pouring holds. -/
def RPourRel (w : World) (q : Nat) (L M : Int) (v v2 : Value) (r : List Rg) (n : Nat) (G : List Rg) (kv : Value) (wr : World) : Prop :=
  ∃ (i : Nat) (l' : List Rg) (u : Value), i ≤ n ∧ kv = .int .i64 i ∧ Blk wr q 29 #[.int .i64 L, u] ∧ Blk wr (w.heap.size + 1) 29 #[.int .i64 M, v2] ∧ Blk wr (w.heap.size + 1 + 1) 29 #[.int .i64 0, .slice none 0 0] ∧ Nds wr u l' ∧ Ok l' ∧ l'.length ≤ 500 + i ∧
    Hid (putAll l' (r.drop i) = G) ∧ tot l' + tot (r.drop i) ≤ 72057594037927935 ∧ Below w.heap.size w wr ∧ ∀ j, u.ownBlock = some j → j < wr.heap.size ∧ j ≠ q ∧ j ≠ w.heap.size + 1 + 1 ∧ (v.ownBlock = some j ∨ w.heap.size ≤ j)

set_option maxRecDepth 100000 in
set_option maxHeartbeats 4000000 in
theorem rpour_c (L M : Int) (l r : List Rg) (v v2 : Value) (w : World) (hv : Nds w v l) (hv2 : Nds w v2 r) (ho : Ok l) (hr : Ok r) (hl : l.length ≤ 500) (hrl : r.length ≤ 500) (hvb : ∀ j, v.ownBlock = some j → j < w.heap.size) :
    Calls Try.prog 30 #[rb L v, rb M v2] w (RGives w L v (pourF L M l r).1 (pourF L M l r).2) := by
  have hT1 := hide (fun W (hW : Below w.heap.size w W) => rtotal_c L l v W (hv.kept hW) ho (by omega))
  have hT2 := hide (fun W (hW : Below w.heap.size w W) => rtotal_c M r v2 W (hv2.kept hW) hr (by omega))
  have hkv := hide (fun W (hW : Below w.heap.size w W) => hv.kept hW)
  have hkv2 := hide (fun W (hW : Below w.heap.size w W) => hv2.kept hW)
  have hvbh := hide hvb
  obtain ⟨A, c, rfl, -, -, -, -⟩ := hv
  obtain ⟨B, d, rfl, -, -, -, -⟩ := hv2
  obtain ⟨n1, en1⟩ : ∃ n1, Hid (l.length = n1) := ⟨_, rfl⟩
  obtain ⟨n2, en2⟩ : ∃ n2, Hid (r.length = n2) := ⟨_, rfl⟩
  rw [en1.out] at hT1 hkv hvbh hl ⊢
  rw [en2.out] at hT2 hkv2 hrl ⊢
  by_cases hLM : L = M
  · subst hLM
    have hoh := hide ho
    have hrp := hide hr.pos
    have hrt := hide (fun p hp => tot_le r hr.pos p hp)
    have hm1 := ho.most
    have hm2 := hr.most
    have ht1 := tot_nonneg l ho.pos
    have ht2 := tot_nonneg r hr.pos
    obtain ⟨t1, e1⟩ : ∃ t1, Hid (tot l = t1) := ⟨_, rfl⟩
    obtain ⟨t2, e2⟩ : ∃ t2, Hid (tot r = t2) := ⟨_, rfl⟩
    rw [e1.out] at hT1 hm1 ht1
    rw [e2.out] at hT2 hm2 ht2
    obtain ⟨W0, hW0⟩ : ∃ W0, Hid (W0 = ((w.alloc (.cells #[.int .i64 L, .slice A n1 c] 29)).alloc (.cells #[.int .i64 L, .slice B n2 d] 29)).alloc (.cells #[.int .i64 0, .slice none 0 0] 29)) := ⟨_, rfl⟩
    have hb0 : Below w.heap.size w W0 := by rw [hW0.out]; exact balloc (balloc (balloc0 _ _) _) _
    have hA : Blk W0 w.heap.size 29 #[.int .i64 L, .slice A n1 c] := by rw [hW0.out]; exact ((Blk.made w _ _).alloc _).alloc _
    have hB : Blk W0 (w.heap.size + 1) 29 #[.int .i64 L, .slice B n2 d] := by rw [hW0.out]; exact (Blk.made_at _ _ _ (by simp)).alloc _
    have hC : Blk W0 (w.heap.size + 1 + 1) 29 #[.int .i64 0, .slice none 0 0] := by rw [hW0.out]; exact Blk.made_at _ _ _ (by simp)
    have hz0 : Hid (W0.heap.size = w.heap.size + 3) := by show _ = _; rw [hW0.out]; simp
    have a0 : W0.cell? ⟨w.heap.size, 0, none⟩ = some (.int .i64 L) := by rw [hA.cell]; rfl
    have a1 : W0.cell? ⟨w.heap.size, 1, none⟩ = some (.slice A n1 c) := by rw [hA.cell]; rfl
    have a2 : W0.cell? ⟨w.heap.size + 1, 0, none⟩ = some (.int .i64 L) := by rw [hB.cell]; rfl
    have a3 : W0.cell? ⟨w.heap.size + 1, 1, none⟩ = some (.slice B n2 d) := by rw [hB.cell]; rfl
    have a4 := hA.lt
    have a5 := hB.lt
    have q1 := hide (fun (e : Later W0.heap.size W0) => hT1.out e.val (hb0.trans (e.property.mono hb0.size)))
    have q2 := hide (fun (e : Later W0.heap.size W0) => hT2.out e.val (hb0.trans (e.property.mono hb0.size)))
    have hkW := hide (fun W (hW : Below W0.heap.size W0 W) => And.intro (hA.kept hW) (And.intro (hB.kept hW) (hC.kept hW)))
    have hb0h := hide hb0
    have hsum : Hid (t2 ≤ 72057594037927935 - t1 → tot l + tot r ≤ 72057594037927935) := fun h => by rw [e1.out, e2.out]; omega
    clear ho hr hA hB hC hb0 hvb
    by_cases hfull : 72057594037927935 - t1 < t2
    · have hF : Hid (pourF L L l r = (l, 5)) := by show _ = _; unfold pourF; rw [if_neg (by simp), e1.out, e2.out, if_pos hfull]
      rw [hF.out]
      go_enter Try.func30, Try.ntmps30
      go_wp2_with fail
      rw [← hW0.out]
      refine wp_region_later (by kernel_rfl) (by kernel_rfl) ?_
      repeat (go_big_quiet_step (first
        | (go_at_call 36; (with_reducible exact calls_later (q2.out _)))
        | (go_at_call 36; (with_reducible exact calls_later (q1.out _)))
        | exact rfl))
      refine wpQuiet_nil ?_
      rintro _ ⟨e3, rfl⟩
      have hb1 := e3.property
      generalize e3.val = W1 at *
      obtain ⟨hA1, hB1, hC1⟩ := hkW.out _ hb1
      have hb01 := hb0h.out.trans (hb1.mono hb0h.out.size)
      have c0 : W1.cell? ⟨w.heap.size, 0, none⟩ = some (.int .i64 L) := by rw [hA1.cell]; rfl
      have c1 : W1.cell? ⟨w.heap.size, 1, none⟩ = some (.slice A n1 c) := by rw [hA1.cell]; rfl
      have c2 := hA1.lt
      have c3 : W1.cell? ⟨w.heap.size + 1 + 1, 0, none⟩ = some (.int .i64 0) := by rw [hC1.cell]; rfl
      have c4 : W1.cell? ⟨w.heap.size + 1 + 1, 1, none⟩ = some (.slice none 0 0) := by rw [hC1.cell]; rfl
      have c5 := hC1.lt
      have c6 := hC1.free 0
      have c7 := hC1.free 1
      have hkl := hide (hkv.out W1 hb01)
      clear hA1 hB1 hC1 a0 a1 a2 a3 a4 a5 q1 q2
      go_wp2_with fail
      refine bodyPost_ret (v := .tuple #[rb L (.slice A n1 c), .int .i64 5]) (by simp [results, Try.results30, go_sem, c3, c4]) rfl ?_
      have hbS := (hb01.setCell (p := ⟨w.heap.size + 1 + 1, 0, none⟩) (show w.heap.size ≤ w.heap.size + 1 + 1 by omega) (.int .i64 L)).setCell (p := ⟨w.heap.size + 1 + 1, 1, none⟩) (show w.heap.size ≤ w.heap.size + 1 + 1 by omega) (.slice A n1 c)
      exact rg_same (hkv.out _ hbS) hbS hvbh.out
    · have hF : Hid (pourF L L l r = (putAll l r, 0)) := by show _ = _; unfold pourF; rw [if_neg (by simp), e1.out, e2.out, if_neg hfull]
      rw [hF.out]
      have hs0 := hide (hsum.out (by omega))
      go_enter Try.func30, Try.ntmps30
      go_wp2_with fail
      rw [← hW0.out]
      refine wp_region_later (by kernel_rfl) (by kernel_rfl) ?_
      repeat (go_big_quiet_step (first
        | (go_at_call 36; (with_reducible exact calls_later (q2.out _)))
        | (go_at_call 36; (with_reducible exact calls_later (q1.out _)))
        | exact rfl))
      refine wpQuiet_nil ?_
      rintro _ ⟨e3, rfl⟩
      have hb1 := e3.property
      generalize e3.val = W1 at *
      obtain ⟨hA1, hB1, hC1⟩ := hkW.out _ hb1
      have hb01 := hb0h.out.trans (hb1.mono hb0h.out.size)
      have c0 : W1.cell? ⟨w.heap.size, 0, none⟩ = some (.int .i64 L) := by rw [hA1.cell]; rfl
      have c1 : W1.cell? ⟨w.heap.size, 1, none⟩ = some (.slice A n1 c) := by rw [hA1.cell]; rfl
      have c2 := hA1.lt
      have c3 : W1.cell? ⟨w.heap.size + 1 + 1, 0, none⟩ = some (.int .i64 0) := by rw [hC1.cell]; rfl
      have c4 : W1.cell? ⟨w.heap.size + 1 + 1, 1, none⟩ = some (.slice none 0 0) := by rw [hC1.cell]; rfl
      have c5 := hC1.lt
      have c6 := hC1.free 0
      have c7 := hC1.free 1
      have hz01 := hb1.size
      have hz0' := hz0.out
      have hz3 : w.heap.size + 3 ≤ W1.heap.size := by omega
      have hstart : Hid (RPourRel w W1.heap.size L L (.slice A n1 c) (.slice B n2 d) r n2 (putAll l r) (.int .i64 0) (W1.alloc (.cells #[.int .i64 L, .slice A n1 c] 29))) :=
        ⟨0, l, _, by omega, rfl, Blk.made _ _ _, hB1.alloc _, hC1.alloc _, hkv.out _ (balloc hb01 _), hoh.out, by rw [en1.out]; omega, by show _ = _; rw [List.drop_zero], by rw [List.drop_zero]; exact hs0.out, balloc hb01 _,
          fun j hj => by have := hvbh.out j hj; exact ⟨by simp; omega, by omega, by omega, .inl hj⟩⟩
      clear hA1 hB1 hC1 a0 a1 a2 a3 a4 a5 q1 q2
      go_wp2_with fail
      obtain ⟨q, hq⟩ : ∃ q, Hid (W1.heap.size = q) := ⟨_, rfl⟩
      rw [hq.out] at hstart
      rw [hq.out]
      have hq2 := hz3
      rw [hq.out] at hq2
      clear c0 c1 c2 c3 c4 c5 c6 c7
      go_loopw [7] (fun kv wr => RPourRel w q L L (.slice A n1 c) (.slice B n2 d) r n2 (putAll l r) kv wr) (fun kv _ => n2 - (intOf kv).toNat)
      case atStart => exact hstart.out
      case round =>
        obtain ⟨i, l', u, hi, rfl, hQ, hB, hC, hu, hok, hlen, hgo, hs, hbel, hf⟩ := hrel
        have b1 : wr.cell? ⟨w.heap.size + 1, 1, none⟩ = some (.slice B n2 d) := by rw [hB.cell]; rfl
        have b2 := hB.lt
        have hnr := hkv2.out wr hbel
        have huh := hide hu
        obtain ⟨Au, cu, rfl, _, _, _, _⟩ := hu
        have d0 : wr.cell? ⟨q, 0, none⟩ = some (.int .i64 L) := by rw [hQ.cell]; rfl
        have d1 : wr.cell? ⟨q, 1, none⟩ = some (.slice Au l'.length cu) := by rw [hQ.cell]; rfl
        have d2 := hQ.lt
        have d3 := hQ.free 0
        have d4 := hQ.free 1
        by_cases hlt : i < n2
        · have hil : i < r.length := by rw [en2.out]; exact hlt
          obtain ⟨Ar, cr, hAr, _, _, _, hrr⟩ := hnr
          obtain ⟨b, off, hbq, hbb, p0, p1⟩ := rd_at hrr hil
          have hBe : B = Ar := by injection hAr
          rw [hbq] at hBe
          subst hBe
          have hp1 := hrp.out r[i] (List.getElem_mem hil)
          have hp2 := hrt.out r[i] (List.getElem_mem hil)
          have hrest := tot_nonneg (r.drop (i + 1)) fun p hp => hrp.out p (List.mem_of_mem_drop hp)
          rw [List.drop_eq_getElem_cons hil, tot] at hs
          rw [List.drop_eq_getElem_cons hil] at hgo
          generalize r[i] = p at *
          obtain ⟨x, y⟩ := p
          simp only at p0 p1 hp1 hp2 hs
          have hgo2 : Hid (putAll (put x y l') (r.drop (i + 1)) = putAll l r) := by show _ = _; rw [← hgo.out, putAll_cons]
          have hput := hide (fun k : Nat => rput_c x y L l' (.slice Au l'.length cu) (wr.drewN k) (huh.out.kept (below_drewN (Below.refl _ _) k)) hok (by omega) ⟨hp1, by omega⟩)
          have hok2 := hide (hok.put x y hp1 (by omega))
          have hln2 := hide (put_len x y l')
          have htp := hide (tot_put x y l')
          have hsh : Hid (tot l' + (y + tot (r.drop (i + 1))) ≤ 72057594037927935) := hs
          have hlt2 : (i : Int) < (n2 : Int) := by omega
          have hBh := hide hB
          have hCh := hide hC
          have hQh := hide hQ
          have hfh := hide hf
          clear hok hgo hs hB hC hQ hf hrr hAr
          go_wp2_with fail
          refine wp_still_tail 13 (by kernel_rfl) (by kernel_rfl) ?_
          intro V hV
          have g0 : V.cell? ⟨q, 0, none⟩ = some (.int .i64 L) := by rw [hV]; exact d0
          have g1 : V.cell? ⟨q, 1, none⟩ = some (.slice Au l'.length cu) := by rw [hV]; exact d1
          have g2 : q < V.heap.size := by rw [hV]; exact d2
          have g3 : V.cell? ⟨w.heap.size + 1, 1, none⟩ = some (.slice (some ⟨b, off, none⟩) n2 d) := by rw [hV]; exact b1
          have g4 : w.heap.size + 1 < V.heap.size := by rw [hV]; exact b2
          have g5 : V.cell? ⟨b, off + i * 2, none⟩ = some (.int .i64 x) := by rw [hV]; exact p0
          have g6 : V.cell? ⟨b, off + i * 2 + 1, none⟩ = some (.int .i64 y) := by rw [hV]; exact p1
          have g7 : b < V.heap.size := by rw [hV]; exact hbb
          have hputV := hput.out 1
          rw [← hV] at hputV
          replace hputV := hide hputV
          have hbV : Below wr.heap.size wr V := by rw [hV]; exact below_drewN (Below.refl _ _) 1
          have hzV : Hid (V.heap.size = wr.heap.size) := by show _ = _; rw [hV]; rfl
          clear hV hput d0 d1 d2 d3 d4 b1 b2 p0 p1
          simp only [List.take_succ_cons, List.take_zero, List.drop_succ_cons, List.drop_zero]
          repeat still_step
          refine wpStill_nil ?_
          go_wp2_with (go_at_call 37; (with_reducible refine hputV.out.mono ?_); rintro e w5 ⟨u5, rfl, ho5, hb5⟩; have hbw5 := hbV.trans (hb5.mono (by rw [hzV.out]; exact Nat.le_refl _)); obtain ⟨A5, c5, rfl, _, _, _⟩ := own_form ho5; have hQ5 := hQh.out.kept hbw5; have k0 : w5.cell? ⟨q, 0, none⟩ = some (.int .i64 L) := (by rw [hQ5.cell]; rfl); have k1 : w5.cell? ⟨q, 1, none⟩ = some (.slice Au l'.length cu) := (by rw [hQ5.cell]; rfl); have k2 := hQ5.lt; have k3 := hQ5.free 0; have k4 := hQ5.free 1; replace ho5 := hide ho5)
          have hzr := hbel.size
          have hz5 := hbw5.size
          have hzV2 := hzV.out
          have hSt := (Turn.setCell w5 (fun j => j = q) ⟨q, 0, none⟩ (.int .i64 L) rfl).trans (Turn.setCell _ (fun j => j = q) ⟨q, 1, none⟩ (.slice A5 (put x y l').length c5) rfl) fun _ _ h => h
          go_roundw
          case rel =>
            refine ⟨i + 1, put x y l', _, by omega, by go_num, ?_, ((hBh.out.kept hbw5).turned hSt (by omega)), ((hCh.out.kept hbw5).turned hSt (by omega)), (own_nds ho5.out).turned hSt ?_, hok2.out, by have := hln2.out; omega, hgo2, by rw [htp.out]; have := hsh.out; omega, ?_, ?_⟩
            · have := (hQ5.set 0 (.int .i64 L)).set 1 (.slice A5 (put x y l').length c5)
              simpa using this
            · intro j hj e
              have := (ho5.out.lt j hj).1
              omega
            · exact ((hbel.trans (hbw5.mono hzr)).setCell (by simp; omega) _).setCell (by simp; omega) _
            · intro j hj
              have := ho5.out.lt j hj
              refine ⟨by simp; omega, by omega, by omega, .inr (by omega)⟩
          case measure => simp [intOf]; omega
        · have hres : Hid (l' = putAll l r) := by show _ = _; rw [← hgo.out, List.drop_of_length_le (by rw [en2.out]; omega), putAll_nil]
          have e3 : wr.cell? ⟨w.heap.size + 1 + 1, 0, none⟩ = some (.int .i64 0) := by rw [hC.cell]; rfl
          have e4 : wr.cell? ⟨w.heap.size + 1 + 1, 1, none⟩ = some (.slice none 0 0) := by rw [hC.cell]; rfl
          have e5 := hC.lt
          have e6 := hC.free 0
          have e7 := hC.free 1
          have hfh := hide hf
          clear hQ hB hC hok hgo hs hf hnr
          go_wp2_with fail
          refine bodyPost_ret (v := .tuple #[rb L (.slice Au l'.length cu), .int .i64 0]) (by simp [results, Try.results30, go_sem, e3, e4]) rfl ?_
          have hSt := (Turn.setCell wr (fun j => j = w.heap.size + 1 + 1) ⟨w.heap.size + 1 + 1, 0, none⟩ (.int .i64 L) rfl).trans (Turn.setCell _ (fun j => j = w.heap.size + 1 + 1) ⟨w.heap.size + 1 + 1, 1, none⟩ (.slice Au l'.length cu) rfl) fun _ _ h => h
          refine ⟨_, rfl, ?_, (hbel.setCell (show w.heap.size ≤ w.heap.size + 1 + 1 by omega) _).setCell (show w.heap.size ≤ w.heap.size + 1 + 1 by omega) _, fun j hj => ?_⟩
          · rw [← hres.out]
            exact huh.out.turned hSt fun j hj e => (hfh.out j hj).2.2.1 e
          · have := hfh.out j hj
            exact ⟨by simp; exact this.1, this.2.2.2⟩
  · have hF : Hid (pourF L M l r = (l, 6)) := if_pos hLM
    rw [hF.out]
    have hne : (L != M) = true := by simpa using hLM
    clear ho hr hLM hvb hT1 hT2
    go_enter Try.func30, Try.ntmps30
    go_wp2_with fail
    refine bodyPost_ret (v := .tuple #[rb L (.slice A n1 c), .int .i64 6]) (by simp [results, Try.results30, go_sem]) rfl ?_
    exact rg_same (hkv.out _ (balloc (balloc (balloc0 _ _) _) _)) (balloc (balloc (balloc0 _ _) _) _) hvbh.out
end Go.Proofs.Ytkjihbaiofocgaa

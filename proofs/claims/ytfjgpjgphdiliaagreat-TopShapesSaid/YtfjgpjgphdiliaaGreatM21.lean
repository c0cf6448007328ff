/- Part 21 of the proof: texts joined by this repo's tools/merge.py (RImg RecG Rank TopA). By the prover of this repo. -/
import Derived.Test.YtfjgpjgphdiliaaGreatM20
import Derived.Deep.DrawnRows
import Derived.Test.YtfjgpjgphdiliaaGreatM18
import Derived.Test.YtfjgpjgphdiliaaGreatM19
set_option linter.unusedVariables false
set_option linter.unusedSimpArgs false
/- The walks of layer 10's reference, on: a bag's image. By the prover of this repo. -/
namespace Go.Proofs.YtfjgpjgphdiliaaGreat
namespace BG
open Go.RowKit
attribute [local go_sem ↓] Go.wp_at_zero Go.wp_at_succ
open TwigM BagM

theorem putAll_nil (l : List Rg) : putAll l [] = l := rfl
theorem putAll_cons (l : List Rg) (p : Rg) (r : List Rg) : putAll l (p :: r) = putAll (put p.1 p.2 l) r := rfl
theorem cut_nil (k : Int) : cut k [] = [] := rfl
theorem cut_cons (k : Int) (p : Rg) (r : List Rg) : cut k (p :: r) = (p.1 / pw k, p.2) :: cut k r := rfl
set_option maxRecDepth 100000 in
theorem rimage_no (k : Int) (L : Int) (v : Value) (r : List Rg) (w : World) (hv : Nds w v r) (hk : k < 0 ∨ L ≤ k) :
    Calls Tryz.prog 11 #[rb L v, .int .i64 k] w fun e w' => e = .returned (.tuple #[rb 0 (.slice none 0 0), .int .i64 2]) ∧ Below w.heap.size w w' := by
  obtain ⟨A, c, rfl, -, -, -, -⟩ := hv
  generalize r.length = n
  by_cases h1 : k < 0
  · clear hk
    go_enter Tryz.func11, Tryz.ntmps11
    go_wp2_with fail
    exact bodyPost_ret (v := .tuple #[rb 0 (.slice none 0 0), .int .i64 2]) (by simp [results, Tryz.results11, go_sem]) rfl ⟨rfl, balloc (balloc0 _ _) _⟩
  · have h2 : L ≤ k := by omega
    clear hk
    go_enter Tryz.func11, Tryz.ntmps11
    go_wp2_with fail
    exact bodyPost_ret (v := .tuple #[rb 0 (.slice none 0 0), .int .i64 2]) (by simp [results, Tryz.results11, go_sem]) rfl ⟨rfl, balloc (balloc0 _ _) _⟩
def RImgRel (w : World) (L M k : Int) (v : Value) (r : List Rg) (n : Nat) (G : List Rg) (kv : Value) (wr : World) : Prop :=
  ∃ (i : Nat) (l' : List Rg) (u : Value), i ≤ n ∧ kv = .int .i64 i ∧ Blk wr (w.heap.size + 1 + 1) 35 #[.int .i64 M, u] ∧ Blk wr w.heap.size 35 #[.int .i64 L, v] ∧ Blk wr (w.heap.size + 1) 35 #[.int .i64 0, .slice none 0 0] ∧ Nds wr u l' ∧ Ok l' ∧ l'.length ≤ i ∧
    Hid (putAll l' (cut k (r.drop i)) = G) ∧ tot l' + tot (r.drop i) ≤ 72057594037927935 ∧ Below w.heap.size w wr ∧ ∀ j, u.ownBlock = some j → j < wr.heap.size ∧ w.heap.size + 3 ≤ j
set_option maxRecDepth 100000 in
set_option maxHeartbeats 4000000 in
theorem rimage_yes (k : Int) (L : Int) (v : Value) (r : List Rg) (w : World) (hv : Nds w v r) (hr : Ok r) (hi0 : In L r) (hrl : r.length ≤ 500) (hL : 1 ≤ L ∧ L ≤ 48) (hk : 0 ≤ k ∧ k < L) :
    Calls Tryz.prog 11 #[rb L v, .int .i64 k] w fun e w' => ∃ u, e = .returned (.tuple #[rb (L - k) u, .int .i64 0]) ∧ Nds w' u (imageF k r) ∧ Below w.heap.size w w' ∧ ∀ j, u.ownBlock = some j → j < w'.heap.size ∧ w.heap.size ≤ j := by
  obtain ⟨k0, k1⟩ := hk
  have hP : Hid (∀ W, Calls Tryz.prog 30 #[.int .i64 k] W fun e w' => e = .returned (.int .i64 (pw k)) ∧ w' = W) := fun W => (rpower k W (by omega)).mono fun _ _ ⟨h1, h2⟩ => ⟨h1, h2.symm⟩
  have hkv := hide (fun W (hW : Below w.heap.size w W) => hv.kept hW)
  have hrp := hide hr.pos
  have hrt := hide (fun p hp => tot_le r hr.pos p hp)
  have hin := hide hi0
  have hsum : Hid (tot r ≤ 72057594037927935) := hr.most
  obtain ⟨A, c, rfl, -, -, -, -⟩ := hv
  obtain ⟨n, en⟩ : ∃ n, Hid (r.length = n) := ⟨_, rfl⟩
  rw [en.out] at hkv hrl ⊢
  have hpp := pw_pos k
  have hLk : 0 < L - k := by omega
  have hLk2 : L - k ≤ 48 := by omega
  obtain ⟨pk, hpk⟩ : ∃ pk, Hid (pw k = pk) := ⟨_, rfl⟩
  rw [hpk.out] at hP hpp
  have hstart : Hid (RImgRel w L (L - k) k (.slice A n c) r n (imageF k r) (.int .i64 0) (((w.alloc (.cells #[.int .i64 L, .slice A n c] 35)).alloc (.cells #[.int .i64 0, .slice none 0 0] 35)).alloc (.cells #[.int .i64 (L - k), .slice none 0 0] 35))) :=
    ⟨0, [], _, by omega, rfl, Blk.made_at _ _ _ (by simp), ((Blk.made w _ _).alloc _).alloc _, (Blk.made_at _ _ _ (by simp)).alloc _, Nds.nil _, Ok.nil, by simp, by show _ = _; rw [List.drop_zero]; rfl, by rw [List.drop_zero]; have := hsum.out; simp [tot]; omega, balloc (balloc (balloc0 _ _) _) _, (fun j hj => by cases hj)⟩
  clear hr hi0
  go_enter Tryz.func11, Tryz.ntmps11
  go_wp2_with fail
  go_loopw [7] (fun kv wr => RImgRel w L (L - k) k (.slice A n c) r n (imageF k r) kv wr) (fun kv _ => n - (intOf kv).toNat)
  case atStart => exact hstart.out
  case round =>
    obtain ⟨i, l', u, hi, rfl, hQ, hB, hC, hu, hok, hlen, hgo, hs, hbel, hf⟩ := hrel
    have b1 : wr.cell? ⟨w.heap.size, 1, none⟩ = some (.slice A n c) := by rw [hB.cell]; rfl
    have b2 := hB.lt
    have hnr := hkv.out wr hbel
    have huh := hide hu
    obtain ⟨Au, cu, rfl, _, _, _, _⟩ := hu
    have d0 : wr.cell? ⟨w.heap.size + 1 + 1, 0, none⟩ = some (.int .i64 (L - k)) := by rw [hQ.cell]; rfl
    have d1 : wr.cell? ⟨w.heap.size + 1 + 1, 1, none⟩ = some (.slice Au l'.length cu) := by rw [hQ.cell]; rfl
    have d2 := hQ.lt
    by_cases hlt : i < n
    · have hil : i < r.length := by rw [en.out]; exact hlt
      obtain ⟨Ar, cr, hAr, _, _, _, hrr⟩ := hnr
      obtain ⟨b, off, hbq, hbb, p0, p1⟩ := rd_at hrr hil
      have hBe : A = Ar := by injection hAr
      rw [hbq] at hBe
      subst hBe
      have hp1 := hrp.out r[i] (List.getElem_mem hil)
      have hp2 := hrt.out r[i] (List.getElem_mem hil)
      have hp3 := hin.out r[i] (List.getElem_mem hil)
      have hrest := tot_nonneg (r.drop (i + 1)) fun p hp => hrp.out p (List.mem_of_mem_drop hp)
      rw [List.drop_eq_getElem_cons hil, tot] at hs
      rw [List.drop_eq_getElem_cons hil] at hgo
      generalize r[i] = p at *
      obtain ⟨x, y⟩ := p
      simp only at p0 p1 hp1 hp2 hs hp3
      obtain ⟨z, hz⟩ : ∃ z, x / pk = z := ⟨_, rfl⟩
      have hquo : IntKind.i64.wrap (x.tdiv pk) = z := by rw [← hz]; exact IntWalk.i64_quo x pk ⟨by omega, by have := pw_le48 (show L ≤ 48 by omega); omega, hpp⟩
      replace hquo := hide hquo
      have hgo2 : Hid (putAll (put z y l') (cut k (r.drop (i + 1))) = imageF k r) := by show _ = _; rw [← hgo.out, cut_cons, putAll_cons, hpk.out, hz]
      have hput := hide (fun q : Nat => rput_c z y (L - k) l' (.slice Au l'.length cu) (wr.drewN q) (huh.out.kept (below_drewN (Below.refl _ _) q)) hok (by omega) ⟨hp1, by omega⟩)
      have hok2 := hide (hok.put z y hp1 (by omega))
      have hln2 := hide (BagM.put_len z y l')
      have htp := hide (BagM.tot_put z y l')
      have hsh : Hid (tot l' + (y + tot (r.drop (i + 1))) ≤ 72057594037927935) := hs
      have hlt2 : (i : Int) < (n : Int) := by omega
      have hBh := hide hB
      have hCh := hide hC
      have hQh := hide hQ
      have hfh := hide hf
      clear hok hgo hs hB hC hQ hf hrr hAr hz
      go_wp2_with fail
      refine wp_still_tail 16 (by kernel_rfl) (by kernel_rfl) ?_
      intro V hV
      have g0 : V.cell? ⟨w.heap.size + 1 + 1, 0, none⟩ = some (.int .i64 (L - k)) := by rw [hV]; exact d0
      have g1 : V.cell? ⟨w.heap.size + 1 + 1, 1, none⟩ = some (.slice Au l'.length cu) := by rw [hV]; exact d1
      have g2 : w.heap.size + 1 + 1 < V.heap.size := by rw [hV]; exact d2
      have g3 : V.cell? ⟨w.heap.size, 1, none⟩ = some (.slice (some ⟨b, off, none⟩) n c) := by rw [hV]; exact b1
      have g4 : w.heap.size < V.heap.size := by rw [hV]; exact b2
      have g5 : V.cell? ⟨b, off + i * 2, none⟩ = some (.int .i64 x) := by rw [hV]; exact p0
      have g6 : V.cell? ⟨b, off + i * 2 + 1, none⟩ = some (.int .i64 y) := by rw [hV]; exact p1
      have g7 : b < V.heap.size := by rw [hV]; exact hbb
      have g8 : (pk == 0) = false := by simp; omega
      have g9 : ¬ pk = 0 := by omega
      have hputV := hput.out 1
      rw [← hV] at hputV
      replace hputV := hide hputV
      have hbV : Below wr.heap.size wr V := by rw [hV]; exact below_drewN (Below.refl _ _) 1
      have hzV : Hid (V.heap.size = wr.heap.size) := by show _ = _; rw [hV]; rfl
      clear hV hput d0 d1 d2 b1 b2 p0 p1
      simp only [List.take_succ_cons, List.take_zero, List.drop_succ_cons, List.drop_zero]
      have g10 := hquo.out
      repeat (first | still_step | still_call (hP.out _))
      refine wpStill_nil ?_
      clear g8 g9 g10
      go_wp2_with (go_at_call 29; (with_reducible refine hputV.out.mono ?_); rintro e w5 ⟨u5, rfl, ho5, hb5⟩; have hbw5 := hbV.trans (hb5.mono (by rw [hzV.out]; exact Nat.le_refl _)); obtain ⟨A5, c5, rfl, _, _, _⟩ := own_form ho5; have hQ5 := hQh.out.kept hbw5; have k0 : w5.cell? ⟨w.heap.size + 1 + 1, 0, none⟩ = some (.int .i64 (L - k)) := (by rw [hQ5.cell]; rfl); have k1 : w5.cell? ⟨w.heap.size + 1 + 1, 1, none⟩ = some (.slice Au l'.length cu) := (by rw [hQ5.cell]; rfl); have k2 := hQ5.lt; have k3 := hQ5.free 0; have k4 := hQ5.free 1; replace ho5 := hide ho5)
      have hzr := hbel.size
      have hz5 := hbw5.size
      have hzV2 := hzV.out
      have hqlt := hQh.out.lt
      have hSt := (Turn.setCell w5 (fun j => j = w.heap.size + 1 + 1) ⟨w.heap.size + 1 + 1, 0, none⟩ (.int .i64 (L - k)) rfl).trans (Turn.setCell _ (fun j => j = w.heap.size + 1 + 1) ⟨w.heap.size + 1 + 1, 1, none⟩ (.slice A5 (put z y l').length c5) rfl) fun _ _ h => h
      go_roundw
      case rel =>
        refine ⟨i + 1, put z y l', _, by omega, by go_num, ?_, ((hBh.out.kept hbw5).turned hSt (by omega)), ((hCh.out.kept hbw5).turned hSt (by omega)), (own_nds ho5.out).turned hSt ?_, hok2.out, by have := hln2.out; omega, hgo2, by rw [htp.out]; have := hsh.out; omega, ?_, ?_⟩
        · have := (hQ5.set 0 (.int .i64 (L - k))).set 1 (.slice A5 (put z y l').length c5)
          simpa using this
        · intro j hj e
          have := (ho5.out.lt j hj).1
          omega
        · exact ((hbel.trans (hbw5.mono hzr)).setCell (show w.heap.size ≤ w.heap.size + 1 + 1 by omega) _).setCell (show w.heap.size ≤ w.heap.size + 1 + 1 by omega) _
        · intro j hj
          have := ho5.out.lt j hj
          exact ⟨by simp; omega, by omega⟩
      case measure => simp [intOf]; omega
    · have hres : Hid (l' = imageF k r) := by show _ = _; rw [← hgo.out, List.drop_of_length_le (by rw [en.out]; omega), cut_nil, putAll_nil]
      have e3 : wr.cell? ⟨w.heap.size + 1, 0, none⟩ = some (.int .i64 0) := by rw [hC.cell]; rfl
      have e4 : wr.cell? ⟨w.heap.size + 1, 1, none⟩ = some (.slice none 0 0) := by rw [hC.cell]; rfl
      have e5 := hC.lt
      have e6 := hC.free 0
      have e7 := hC.free 1
      have hfh := hide hf
      clear hQ hB hC hok hgo hs hf hnr
      go_wp2_with fail
      refine bodyPost_ret (v := .tuple #[rb (L - k) (.slice Au l'.length cu), .int .i64 0]) (by simp [results, Tryz.results11, go_sem, e3, e4]) rfl ?_
      have hSt := (Turn.setCell wr (fun j => j = w.heap.size + 1) ⟨w.heap.size + 1, 0, none⟩ (.int .i64 (L - k)) rfl).trans (Turn.setCell _ (fun j => j = w.heap.size + 1) ⟨w.heap.size + 1, 1, none⟩ (.slice Au l'.length cu) rfl) fun _ _ h => h
      refine ⟨_, rfl, ?_, (hbel.setCell (show w.heap.size ≤ w.heap.size + 1 by omega) _).setCell (show w.heap.size ≤ w.heap.size + 1 by omega) _, fun j hj => ?_⟩
      · rw [← hres.out]
        exact huh.out.turned hSt fun j hj e => by have := hfh.out j hj; omega
      · have := hfh.out j hj
        exact ⟨by simp; exact this.1, by omega⟩
end BG
end Go.Proofs.YtfjgpjgphdiliaaGreat
/- What recast refuses. By the prover of this repo. -/
namespace Go.Proofs.YtfjgpjgphdiliaaGreat
open Go.RowKit
open TwigM RollM StoM

section
variable (d p : Nat) (K kd L : Int) (l : List Nd) (F : Nat → Prop) (w : World)
theorem rec_coarsen_no (bits : Int) (h : DigAt w d p K kd L l F) (hno : bits < 0 ∨ L ≤ bits) :
    Calls Tryz.prog 10 #[.pointer (some ⟨d, 0, none⟩), .int .i64 bits] w fun e w' => e = .returned (.tuple #[.pointer none, .int .i64 2]) ∧ Below w.heap.size w w' := by
  have hC := hide (digest_conf d p K kd L l F w h)
  have hL := h.pool.uni
  clear h
  unfold conf at hC
  by_cases h0 : bits < 0
  · clear hno
    go_enter Tryz.func10, Tryz.ntmps10
    go_wp2_with fail
    refine Calls.mono hC.out ?_
    rintro e w1 ⟨rfl, hb1⟩
    have hb1 := hide (balloc hb1 (.cells #[.int .i64 L, .int .i64 K, .int .i64 kd] 23))
    go_wp2_with fail
    go_ret2
    exact ⟨rfl, hb1.out⟩
  · have h1 : L ≤ bits := by omega
    clear hno
    go_enter Tryz.func10, Tryz.ntmps10
    go_wp2_with fail
    refine Calls.mono hC.out ?_
    rintro e w1 ⟨rfl, hb1⟩
    have hb1 := hide (balloc hb1 (.cells #[.int .i64 L, .int .i64 K, .int .i64 kd] 23))
    go_wp2_with fail
    go_ret2
    exact ⟨rfl, hb1.out⟩
theorem rec_grow_no (L' : Int) (h : DigAt w d p K kd L l F) (hlo : -9223372036854775808 ≤ L') (hhi : L' ≤ 9223372036854775807) (hno : L' < L ∨ 48 < L' ∨ kindB kd L' = false) :
    Calls Tryz.prog 7 #[.pointer (some ⟨d, 0, none⟩), .int .i64 L'] w fun e w' => e = .returned (.tuple #[.pointer none, .int .i64 2]) ∧ Below w.heap.size w w' := by
  have hC := hide (digest_conf d p K kd L l F w h)
  have hL := h.pool.uni
  clear h
  unfold conf at hC
  by_cases h0 : L' < L
  · clear hno
    go_enter Tryz.func7, Tryz.ntmps7
    go_wp2_with fail
    refine Calls.mono hC.out ?_
    rintro e w1 ⟨rfl, hb1⟩
    have hb1 := hide hb1
    go_wp2_with fail
    go_ret2
    exact ⟨rfl, balloc (balloc hb1.out _) _⟩
  · by_cases h1 : 48 < L'
    · clear hno
      go_enter Tryz.func7, Tryz.ntmps7
      go_wp2_with fail
      refine Calls.mono hC.out ?_
      rintro e w1 ⟨rfl, hb1⟩
      have hb1 := hide (balloc (balloc hb1 (.cells #[.int .i64 L, .int .i64 K, .int .i64 kd] 23)) (.cells #[.int .i64 (L' - L)] 3))
      go_wp2_with fail
      go_ret2
      exact ⟨rfl, hb1.out⟩
    · have hk : kindB kd L' = false := by
        rcases hno with k | k | k
        · omega
        · omega
        · exact k
      have hM := hide (fun W => rec_may L' K kd W)
      rw [hk] at hM
      clear hno hk
      unfold conf at hM
      go_enter Tryz.func7, Tryz.ntmps7
      go_wp2_with fail
      refine Calls.mono hC.out ?_
      rintro e w1 ⟨rfl, hb1⟩
      have hbs := hb1.size
      have hb2 := hide (hb1.trans ((balloc (balloc0 w1 (.cells #[.int .i64 L', .int .i64 K, .int .i64 kd] 23)) (.cells #[.int .i64 (L' - L)] 3)).mono hbs))
      clear hb1
      go_wp2_with fail
      generalize ((w1.alloc (.cells #[.int .i64 L', .int .i64 K, .int .i64 kd] 23)).alloc (.cells #[.int .i64 (L' - L)] 3)) = W2 at *
      refine Calls.mono (hM.out _) ?_
      rintro e w3 ⟨rfl, hb3⟩
      have hb3 := hide (hb2.out.trans (hb3.mono hb2.out.size))
      go_wp2_with fail
      go_ret2
      exact ⟨rfl, hb3.out⟩
end
end Go.Proofs.YtfjgpjgphdiliaaGreat
/- What weighs up to a number: the walks of rank.*. By the prover of this repo. -/
namespace Go.Proofs.YtfjgpjgphdiliaaGreat
open Go.RowKit
open TwigM RollM StoM

theorem own_dn {w : World} {b c n size : Nat} {e : TypeId} {v : Value} {xs : List Value} (hbc : c ≤ b) (h : w.ownsRow b e size v n xs) : w.ownsRow c e size v n xs := by
  obtain ⟨h1, h2⟩ := h
  refine ⟨h1, ?_⟩
  rcases h2 with h2 | ⟨g, cap, cur, e1, hb, hr⟩
  · exact .inl h2
  · exact .inr ⟨g, cap, cur, e1, Nat.le_trans hbc hb, hr⟩
theorem sumM_app (g : Int → Int) : ∀ a b : List Nd, sumM g (a ++ b) = sumM g a + sumM g b
  | [], b => by simp [sumM]
  | p :: a, b => by
    rw [List.cons_append, sumM, sumM, sumM_app g a b]
    omega
theorem sumM_next (g : Int → Int) (l : List Nd) (i : Nat) (hi : i < l.length) : sumM g (l.take (i + 1)) = sumM g (l.take i) + l[i].2 * g l[i].1 := by
  rw [List.take_succ_eq_append_getElem hi, sumM_app]
  simp [sumM]
theorem sumM_range {g : Int → Int} {l : List Nd} (hc : Canon l) (hg : ∀ x, 0 ≤ g x ∧ g x ≤ 1) (i : Nat) : 0 ≤ sumM g (l.take i) ∧ sumM g (l.take i) ≤ sumL l := by
  have hct : Cnt (l.take i) := fun p hp => Int.le_of_lt (hc.cnt p (List.mem_of_mem_take hp))
  refine ⟨sumM_nonneg hct fun p _ => (hg p.1).1, ?_⟩
  have h1 := sumM_le (f := g) (g := fun _ => 1) hct fun p _ => (hg p.1).2
  rw [← sumL_M] at h1
  have := sum_take hc i
  omega
theorem low_told (b : Nat) (lo hi x : Int) (w : World) (hb : Blk w b 3 #[.int .i64 x]) : Calls Tryz.prog 67 #[.int .i64 lo, .int .i64 hi, .pointer (some ⟨b, 0, none⟩)] w fun e w' => e = .returned (.bool (decide (hi ≤ x))) ∧ w = w' := by
  have c0 := hb.cell 0
  clear hb
  go_enter Tryz.func67, Tryz.ntmps67
  go_wp2_with fail
  go_ret
  exact ⟨rfl, rfl⟩
set_option maxRecDepth 100000 in
set_option maxHeartbeats 2000000 in
theorem low_weigh (d p b : Nat) (K kd L x : Int) (l : List Nd) (F : Nat → Prop) (w : World) (h : DigAt w d p K kd L l F) (hb : Blk w b 3 #[.int .i64 x]) :
    Calls Tryz.prog 66 #[.pointer (some ⟨d, 0, none⟩), .func (.func 67) #[] #[.pointer (some ⟨b, 0, none⟩)]] w fun e w' => e = .returned (.int .i64 (lowS L x l)) ∧ Below w.heap.size w w' := by
  obtain ⟨hL1, hL2⟩ := h.pool.uni
  have hC := hide (fun W (hW : Below w.heap.size w W) => digest_conf d p K kd L l F W (h.kept hW))
  have hN := hide (fun W (hW : Below w.heap.size w W) => digest_nodes d p K kd L l F W (h.kept hW))
  have hE := hide (fun (id : Int) (W : World) (h1 : 1 ≤ id) (h2 : id < 2 * pw L) => ends_yes L id W hL1 hL2 h1 h2)
  have hTd := hide (fun (lo hi : Int) (W : World) (hW : Below w.heap.size w W) => low_told b lo hi x W (hb.kept hW))
  have hnx := hide (fun i hi => sumM_next (fun id => if hiF L id ≤ x then 1 else 0) l i hi)
  have hrg := hide (fun i => sumM_range (g := fun id => if hiF L id ≤ x then 1 else 0) h.pool.canon (fun y => by split <;> omega) i)
  have hs := h.pool.sum
  have hinu := hide h.pool.inU
  have hall := hide h.pool.allU
  have hll := h.pool.len
  have hfin : Hid (sumM (fun id => if hiF L id ≤ x then 1 else 0) (l.take l.length) = lowS L x l) := by show _ = _; rw [List.take_length]; rfl
  clear h hb
  obtain ⟨R, hR⟩ : ∃ R, lowS L x l = R := ⟨_, rfl⟩
  rw [hR] at hfin ⊢
  clear hR
  obtain ⟨n, hn⟩ : ∃ n, Hid (l.length = n) := ⟨_, rfl⟩
  rw [hn.out] at hfin hll
  unfold conf at hC
  have hfld : ∀ W : World, (Instr.field 23 (.agg #[.int .i64 L, .int .i64 K, .int .i64 kd]) 0).run Tryz.prog W = .ok (.int .i64 L) W := fun _ => by kernel_rfl
  go_enter Tryz.func66, Tryz.ntmps66
  go_wp2_with fail
  refine Calls.mono (hC.out _ (Below.refl _ _)) ?_
  rintro e w1 ⟨rfl, hb1⟩
  have hb1 := hide hb1
  go_wp2_with fail
  refine Calls.mono (hN.out _ hb1.out) ?_
  rintro e w2 ⟨v, rfl, hv, hb2⟩
  rw [hn.out] at hv
  obtain ⟨A, c, rfl, hA1, hA2, hA3⟩ := own_form hv
  have hbs1 := hb1.out.size
  have hv := hide (own_dn hbs1 hv)
  have hb2 := hide (hb1.out.trans (hb2.mono hbs1))
  go_wp2_with fail
  go_loopw [5, 18] (fun sv kv wr => ∃ (i : Nat) (s : Int), sv = .int .i64 s ∧ kv = .int .i64 i ∧ i ≤ n ∧ Hid (s = sumM (fun id => if hiF L id ≤ x then 1 else 0) (l.take i)) ∧ 0 ≤ s ∧ s ≤ 72057594037927935 ∧ Hid (wr.ownsRow w.heap.size 76 2 (.slice A n c) n (ndv l)) ∧ Hid (Below w.heap.size w wr)) (fun _ kv _ => n - (intOf kv).toNat)
  case atStart => exact ⟨0, 0, rfl, rfl, by omega, by show _ = _; rw [List.take_zero]; rfl, by omega, by omega, hv, hb2⟩
  case round =>
    obtain ⟨i, s, rfl, rfl, hi, hse, hs0, hs1, hrow, hbel⟩ := hrel
    clear hv hb2
    by_cases hlt : i < n
    · have hil : i < l.length := by rw [hn.out]; exact hlt
      have hro := hrow.out
      rw [← hn.out] at hro
      obtain ⟨g, cap, e1, hg, cx, cn⟩ := nd_at hro hil
      injection e1 with e1 e2 e3
      subst e1 e3
      have hid := hinu.out _ (List.getElem_mem hil)
      have hall1 := hall.out _ (List.getElem_mem hil)
      have hn1 := hnx.out i hil
      have hr1 := hrg.out (i + 1)
      rw [hn1, ← hse.out] at hr1
      rw [← hse.out] at hn1
      clear hro
      generalize l[i] = q at *
      obtain ⟨id, cnt⟩ := q
      simp only at cx cn hid hn1 hr1 hall1
      have hE1 := hide (fun W => hE.out id W hid.1 hid.2)
      have hbs := hbel.out.size
      have hb3 := hide (hbel.out.alloc hbs (.cells #[.int .i64 id, .int .i64 cnt] 76))
      have hrow3 := hide (hrow.out.alloc (.cells #[.int .i64 id, .int .i64 cnt] 76))
      by_cases hq : hiF L id ≤ x
      · have hT1 := hide (fun W (hW : Below w.heap.size w W) => hTd.out (loF L id) (loF L id + pw (L - lg id) - 1) W hW)
        rw [decide_eq_true (show (loF L id + pw (L - lg id) - 1) ≤ x from hq)] at hT1
        rw [if_pos hq] at hn1 hr1
        have hn1 := hide hn1
        go_wp2_with fail
        refine Calls.mono (hE1.out _) ?_
        rintro e w4 ⟨rfl, m, rfl⟩
        have hb4 : Hid (Below w.heap.size w ((wr.alloc (.cells #[.int .i64 id, .int .i64 cnt] 76)).drewN m)) := ⟨hb3.out.os, hb3.out.tape, hb3.out.output, hb3.out.size, hb3.out.block⟩
        have hrow4 : Hid (((wr.alloc (.cells #[.int .i64 id, .int .i64 cnt] 76)).drewN m).ownsRow w.heap.size 76 2 (.slice (some ⟨g, 0, none⟩) n c) n (ndv l)) := hrow3.out
        go_wp2_with (go_at_call 67; refine (hT1.out _ hb4.out).mono ?_; rintro e w5 ⟨rfl, rfl⟩)
        go_roundw
        case rel => exact ⟨i + 1, s + cnt, rfl, by go_num, by omega, by show _ = _; rw [hn1.out]; omega, by omega, by omega, hrow4, hb4⟩
        case measure => simp [intOf]; omega
      · have hT1 := hide (fun W (hW : Below w.heap.size w W) => hTd.out (loF L id) (loF L id + pw (L - lg id) - 1) W hW)
        rw [decide_eq_false (show ¬ (loF L id + pw (L - lg id) - 1) ≤ x from hq)] at hT1
        rw [if_neg hq] at hn1 hr1
        have hn1 := hide hn1
        go_wp2_with fail
        refine Calls.mono (hE1.out _) ?_
        rintro e w4 ⟨rfl, m, rfl⟩
        have hb4 : Hid (Below w.heap.size w ((wr.alloc (.cells #[.int .i64 id, .int .i64 cnt] 76)).drewN m)) := ⟨hb3.out.os, hb3.out.tape, hb3.out.output, hb3.out.size, hb3.out.block⟩
        have hrow4 : Hid (((wr.alloc (.cells #[.int .i64 id, .int .i64 cnt] 76)).drewN m).ownsRow w.heap.size 76 2 (.slice (some ⟨g, 0, none⟩) n c) n (ndv l)) := hrow3.out
        go_wp2_with (go_at_call 67; refine (hT1.out _ hb4.out).mono ?_; rintro e w5 ⟨rfl, rfl⟩)
        go_roundw
        case rel => exact ⟨i + 1, s, rfl, by go_num, by omega, by show _ = _; rw [hn1.out]; omega, hs0, hs1, hrow4, hb4⟩
        case measure => simp [intOf]; omega
    · obtain rfl : i = n := by omega
      have hsR : s = R := hse.out.trans hfin.out
      subst hsR
      go_wp2_with fail
      go_ret
      exact ⟨rfl, hbel.out⟩
theorem rank_low (d p : Nat) (K kd L x : Int) (l : List Nd) (F : Nat → Prop) (w : World) (h : DigAt w d p K kd L l F) :
    Calls Tryz.prog 33 #[.pointer (some ⟨d, 0, none⟩), .int .i64 x] w fun e w' => e = .returned (.int .i64 (lowS L x l)) ∧ Below w.heap.size w w' := by
  have hb0 := balloc0 w (.cells #[.int .i64 x] 3)
  have hW := hide (low_weigh d p w.heap.size K kd L x l F (w.alloc (.cells #[.int .i64 x] 3)) (h.kept hb0) (Blk.made w _ _))
  clear h
  go_enter Tryz.func33, Tryz.ntmps33
  go_wp2_with fail
  refine Calls.mono hW.out ?_
  rintro e w1 ⟨rfl, hb1⟩
  have hb := hide (hb0.trans (hb1.mono (by simp)))
  clear hb1
  go_wp2_with fail
  go_ret
  exact ⟨rfl, hb.out⟩
theorem high_told (b : Nat) (lo hi x : Int) (w : World) (hb : Blk w b 3 #[.int .i64 x]) : Calls Tryz.prog 68 #[.int .i64 lo, .int .i64 hi, .pointer (some ⟨b, 0, none⟩)] w fun e w' => e = .returned (.bool (decide (lo ≤ x))) ∧ w = w' := by
  have c0 := hb.cell 0
  clear hb
  go_enter Tryz.func68, Tryz.ntmps68
  go_wp2_with fail
  go_ret
  exact ⟨rfl, rfl⟩
set_option maxRecDepth 100000 in
set_option maxHeartbeats 2000000 in
theorem high_weigh (d p b : Nat) (K kd L x : Int) (l : List Nd) (F : Nat → Prop) (w : World) (h : DigAt w d p K kd L l F) (hb : Blk w b 3 #[.int .i64 x]) :
    Calls Tryz.prog 66 #[.pointer (some ⟨d, 0, none⟩), .func (.func 68) #[] #[.pointer (some ⟨b, 0, none⟩)]] w fun e w' => e = .returned (.int .i64 (highS L x l)) ∧ Below w.heap.size w w' := by
  obtain ⟨hL1, hL2⟩ := h.pool.uni
  have hC := hide (fun W (hW : Below w.heap.size w W) => digest_conf d p K kd L l F W (h.kept hW))
  have hN := hide (fun W (hW : Below w.heap.size w W) => digest_nodes d p K kd L l F W (h.kept hW))
  have hE := hide (fun (id : Int) (W : World) (h1 : 1 ≤ id) (h2 : id < 2 * pw L) => ends_yes L id W hL1 hL2 h1 h2)
  have hTd := hide (fun (lo hi : Int) (W : World) (hW : Below w.heap.size w W) => high_told b lo hi x W (hb.kept hW))
  have hnx := hide (fun i hi => sumM_next (fun id => if loF L id ≤ x then 1 else 0) l i hi)
  have hrg := hide (fun i => sumM_range (g := fun id => if loF L id ≤ x then 1 else 0) h.pool.canon (fun y => by split <;> omega) i)
  have hs := h.pool.sum
  have hinu := hide h.pool.inU
  have hall := hide h.pool.allU
  have hll := h.pool.len
  have hfin : Hid (sumM (fun id => if loF L id ≤ x then 1 else 0) (l.take l.length) = highS L x l) := by show _ = _; rw [List.take_length]; rfl
  clear h hb
  obtain ⟨R, hR⟩ : ∃ R, highS L x l = R := ⟨_, rfl⟩
  rw [hR] at hfin ⊢
  clear hR
  obtain ⟨n, hn⟩ : ∃ n, Hid (l.length = n) := ⟨_, rfl⟩
  rw [hn.out] at hfin hll
  unfold conf at hC
  have hfld : ∀ W : World, (Instr.field 23 (.agg #[.int .i64 L, .int .i64 K, .int .i64 kd]) 0).run Tryz.prog W = .ok (.int .i64 L) W := fun _ => by kernel_rfl
  go_enter Tryz.func66, Tryz.ntmps66
  go_wp2_with fail
  refine Calls.mono (hC.out _ (Below.refl _ _)) ?_
  rintro e w1 ⟨rfl, hb1⟩
  have hb1 := hide hb1
  go_wp2_with fail
  refine Calls.mono (hN.out _ hb1.out) ?_
  rintro e w2 ⟨v, rfl, hv, hb2⟩
  rw [hn.out] at hv
  obtain ⟨A, c, rfl, hA1, hA2, hA3⟩ := own_form hv
  have hbs1 := hb1.out.size
  have hv := hide (own_dn hbs1 hv)
  have hb2 := hide (hb1.out.trans (hb2.mono hbs1))
  go_wp2_with fail
  go_loopw [5, 18] (fun sv kv wr => ∃ (i : Nat) (s : Int), sv = .int .i64 s ∧ kv = .int .i64 i ∧ i ≤ n ∧ Hid (s = sumM (fun id => if loF L id ≤ x then 1 else 0) (l.take i)) ∧ 0 ≤ s ∧ s ≤ 72057594037927935 ∧ Hid (wr.ownsRow w.heap.size 76 2 (.slice A n c) n (ndv l)) ∧ Hid (Below w.heap.size w wr)) (fun _ kv _ => n - (intOf kv).toNat)
  case atStart => exact ⟨0, 0, rfl, rfl, by omega, by show _ = _; rw [List.take_zero]; rfl, by omega, by omega, hv, hb2⟩
  case round =>
    obtain ⟨i, s, rfl, rfl, hi, hse, hs0, hs1, hrow, hbel⟩ := hrel
    clear hv hb2
    by_cases hlt : i < n
    · have hil : i < l.length := by rw [hn.out]; exact hlt
      have hro := hrow.out
      rw [← hn.out] at hro
      obtain ⟨g, cap, e1, hg, cx, cn⟩ := nd_at hro hil
      injection e1 with e1 e2 e3
      subst e1 e3
      have hid := hinu.out _ (List.getElem_mem hil)
      have hall1 := hall.out _ (List.getElem_mem hil)
      have hn1 := hnx.out i hil
      have hr1 := hrg.out (i + 1)
      rw [hn1, ← hse.out] at hr1
      rw [← hse.out] at hn1
      clear hro
      generalize l[i] = q at *
      obtain ⟨id, cnt⟩ := q
      simp only at cx cn hid hn1 hr1 hall1
      have hE1 := hide (fun W => hE.out id W hid.1 hid.2)
      have hbs := hbel.out.size
      have hb3 := hide (hbel.out.alloc hbs (.cells #[.int .i64 id, .int .i64 cnt] 76))
      have hrow3 := hide (hrow.out.alloc (.cells #[.int .i64 id, .int .i64 cnt] 76))
      by_cases hq : loF L id ≤ x
      · have hT1 := hide (fun W (hW : Below w.heap.size w W) => hTd.out (loF L id) (loF L id + pw (L - lg id) - 1) W hW)
        rw [decide_eq_true (show loF L id ≤ x from hq)] at hT1
        rw [if_pos hq] at hn1 hr1
        have hn1 := hide hn1
        go_wp2_with fail
        refine Calls.mono (hE1.out _) ?_
        rintro e w4 ⟨rfl, m, rfl⟩
        have hb4 : Hid (Below w.heap.size w ((wr.alloc (.cells #[.int .i64 id, .int .i64 cnt] 76)).drewN m)) := ⟨hb3.out.os, hb3.out.tape, hb3.out.output, hb3.out.size, hb3.out.block⟩
        have hrow4 : Hid (((wr.alloc (.cells #[.int .i64 id, .int .i64 cnt] 76)).drewN m).ownsRow w.heap.size 76 2 (.slice (some ⟨g, 0, none⟩) n c) n (ndv l)) := hrow3.out
        go_wp2_with (go_at_call 68; refine (hT1.out _ hb4.out).mono ?_; rintro e w5 ⟨rfl, rfl⟩)
        go_roundw
        case rel => exact ⟨i + 1, s + cnt, rfl, by go_num, by omega, by show _ = _; rw [hn1.out]; omega, by omega, by omega, hrow4, hb4⟩
        case measure => simp [intOf]; omega
      · have hT1 := hide (fun W (hW : Below w.heap.size w W) => hTd.out (loF L id) (loF L id + pw (L - lg id) - 1) W hW)
        rw [decide_eq_false (show ¬ loF L id ≤ x from hq)] at hT1
        rw [if_neg hq] at hn1 hr1
        have hn1 := hide hn1
        go_wp2_with fail
        refine Calls.mono (hE1.out _) ?_
        rintro e w4 ⟨rfl, m, rfl⟩
        have hb4 : Hid (Below w.heap.size w ((wr.alloc (.cells #[.int .i64 id, .int .i64 cnt] 76)).drewN m)) := ⟨hb3.out.os, hb3.out.tape, hb3.out.output, hb3.out.size, hb3.out.block⟩
        have hrow4 : Hid (((wr.alloc (.cells #[.int .i64 id, .int .i64 cnt] 76)).drewN m).ownsRow w.heap.size 76 2 (.slice (some ⟨g, 0, none⟩) n c) n (ndv l)) := hrow3.out
        go_wp2_with (go_at_call 68; refine (hT1.out _ hb4.out).mono ?_; rintro e w5 ⟨rfl, rfl⟩)
        go_roundw
        case rel => exact ⟨i + 1, s, rfl, by go_num, by omega, by show _ = _; rw [hn1.out]; omega, hs0, hs1, hrow4, hb4⟩
        case measure => simp [intOf]; omega
    · obtain rfl : i = n := by omega
      have hsR : s = R := hse.out.trans hfin.out
      subst hsR
      go_wp2_with fail
      go_ret
      exact ⟨rfl, hbel.out⟩
theorem rank_high (d p : Nat) (K kd L x : Int) (l : List Nd) (F : Nat → Prop) (w : World) (h : DigAt w d p K kd L l F) :
    Calls Tryz.prog 34 #[.pointer (some ⟨d, 0, none⟩), .int .i64 x] w fun e w' => e = .returned (.int .i64 (highS L x l)) ∧ Below w.heap.size w w' := by
  have hb0 := balloc0 w (.cells #[.int .i64 x] 3)
  have hW := hide (high_weigh d p w.heap.size K kd L x l F (w.alloc (.cells #[.int .i64 x] 3)) (h.kept hb0) (Blk.made w _ _))
  clear h
  go_enter Tryz.func34, Tryz.ntmps34
  go_wp2_with fail
  refine Calls.mono hW.out ?_
  rintro e w1 ⟨rfl, hb1⟩
  have hb := hide (hb0.trans (hb1.mono (by simp)))
  clear hb1
  go_wp2_with fail
  go_ret
  exact ⟨rfl, hb.out⟩
end Go.Proofs.YtfjgpjgphdiliaaGreat
/- The law's own words: whether a digest stands for a bag. By the prover of this repo. -/
namespace Go.Proofs.YtfjgpjgphdiliaaGreat
open Go.RowKit
open TwigM RollM StoM TopM

theorem low_high (L y : Int) {l : List Nd} (hc : Canon l) : 0 ≤ lowS L y l ∧ lowS L y l ≤ sumL l ∧ 0 ≤ highS L y l ∧ highS L y l ≤ sumL l := by
  have h1 := sumM_range (g := fun id => if hiF L id ≤ y then 1 else 0) hc (fun x => by split <;> omega) l.length
  have h2 := sumM_range (g := fun id => if loF L id ≤ y then 1 else 0) hc (fun x => by split <;> omega) l.length
  rw [List.take_length] at h1 h2
  unfold lowS highS
  omega
set_option maxRecDepth 100000 in
set_option maxHeartbeats 2000000 in
theorem stands_c (d p : Nat) (K kd L y : Int) (l b : List Nd) (v : Value) (F : Nat → Prop) (N : Nat) (w : World) (h : DigAt w d p K kd L l F) (hv : Nds w v b) (hi : Inv K L l b N) (hN : N ≤ 1000) :
    Calls Tryz.prog 12 #[.pointer (some ⟨d, 0, none⟩), BG.rb L v, .int .i64 y] w fun e w' => e = .returned (.bool true) ∧ Below w.heap.size w w' := by
  obtain ⟨hL1, hL2⟩ := h.pool.uni
  have hK1 := h.k1
  have hK2 := h.k2
  have hbl : b.length ≤ 1000 := Nat.le_trans hi.blen hN
  have hll : l.length ≤ 1000 := Nat.le_trans hi.len hN
  have hR := hide (fun W (hW : Below w.heap.size w W) => BG.rrank_c y L b v W (hv.kept hW) hi.ok (by omega))
  have hT := hide (fun W (hW : Below w.heap.size w W) => BG.rtotal_c L b v W (hv.kept hW) hi.ok (by omega))
  rw [← hi.tot] at hT
  have hLo := hide (fun W (hW : Below w.heap.size w W) => rank_low d p K kd L y l F W (h.kept hW))
  have hHi := hide (fun W (hW : Below w.heap.size w W) => rank_high d p K kd L y l F W (h.kept hW))
  have hCf := hide (fun W (hW : Below w.heap.size w W) => digest_conf d p K kd L l F W (h.kept hW))
  have hDn := hide (fun W (hW : Below w.heap.size w W) => digest_n d p K kd L l F W (h.kept hW))
  have hDl := hide (fun W (hW : Below w.heap.size w W) => digest_len d p K kd L l F W (h.kept hW))
  have hs0 := sumL_nonneg l hi.canon.cntL
  have hs1 := hi.sum
  obtain ⟨q1, q2, q3, q4⟩ := low_high L y hi.canon
  have f1 := hi.low y
  have f2 := hi.high y
  have hm0 : 0 ≤ sumL l / K := Int.ediv_nonneg hs0 (by omega)
  have hm1 : sumL l / K ≤ sumL l := Int.ediv_le_self _ hs0
  have f3 := slack (y := y) hL1 hm0 hi.canon.cntL hi.inU hi.light
  have f4 : (l.length : Int) ≤ 8 * K := hi.room
  have hlen0 : (0 : Int) ≤ (l.length : Int) := by omega
  have hLm : 0 ≤ L * (sumL l / K) := Int.mul_nonneg (by omega) hm0
  have hLm2 : L * (sumL l / K) ≤ 48 * (sumL l / K) := Int.mul_le_mul_of_nonneg_right hL2 hm0
  have hquo : IntKind.i64.wrap ((sumL l).tdiv K) = sumL l / K := IntWalk.i64_quo (sumL l) K ⟨by omega, by omega, by omega⟩
  have hkv := hide (fun W (hW : Below w.heap.size w W) => hv.kept hW)
  obtain ⟨A, c, rfl, -, -, -, -⟩ := hv
  generalize hgm : sumL l / K = m at *
  generalize sumL l = S at *
  generalize BagM.rank y b = n at *
  generalize lowS L y l = lo at *
  generalize highS L y l = hh at *
  generalize hgl : (l.length : Int) = nl at *
  generalize b.length = nb at *
  have hb0 := balloc0 w (.cells #[.int .i64 L, .slice A nb c] 35)
  have bB := Blk.made w 35 #[.int .i64 L, .slice A nb c]
  clear h hi hkv hgm hgl
  unfold conf at hCf
  go_enter Tryz.func12, Tryz.ntmps12
  go_wp2_with fail
  generalize hW1 : (w.alloc (.cells #[.int .i64 L, .slice A nb c] 35)) = w1 at *
  have b0 := bB.cell 0
  have b1 := bB.cell 1
  have b2 := bB.lt
  have hR1 := hide (fun (e : Later w1.heap.size w1) => hR.out e.val (hb0.trans (e.property.mono hb0.size)))
  have hT1 := hide (fun (e : Later w1.heap.size w1) => hT.out e.val (hb0.trans (e.property.mono hb0.size)))
  have hbh := hide hb0
  clear hW1 bB hb0
  refine wp_region_later (by kernel_rfl) (by kernel_rfl) ?_
  repeat (go_big_quiet_step (first
    | (go_at_call 31; exact calls_later (hR1.out _))
    | (go_at_call 32; exact calls_later (hT1.out _))
    | exact rfl))
  refine wpQuiet_nil ?_
  rintro _ ⟨e2, rfl⟩
  have hb2 := hide (hbh.out.trans (e2.property.mono hbh.out.size))
  clear b0 b1 b2
  generalize e2.val = w2 at *
  clear e2
  go_wp2_with fail
  refine Calls.mono (hLo.out _ hb2.out) ?_
  rintro e w3 ⟨rfl, hb3⟩
  have hb3 := hide (hb2.out.trans (hb3.mono hb2.out.size))
  go_wp2_with fail
  refine Calls.mono (hHi.out _ hb3.out) ?_
  rintro e w4 ⟨rfl, hb4⟩
  have hb4 := hide (hb3.out.trans (hb4.mono hb3.out.size))
  go_wp2_with fail
  refine Calls.mono (hCf.out _ hb4.out) ?_
  rintro e w5 ⟨rfl, hb5⟩
  have hb5 := hide (hb4.out.trans (hb5.mono hb4.out.size))
  go_wp2_with fail
  have hb6 := hb5.out.trans ((balloc0 w5 (.cells #[.int .i64 L, .int .i64 K, .int .i64 kd] 23)).mono hb5.out.size)
  have bC := Blk.made w5 23 #[.int .i64 L, .int .i64 K, .int .i64 kd]
  generalize hW6 : (w5.alloc (.cells #[.int .i64 L, .int .i64 K, .int .i64 kd] 23)) = w6 at *
  have b0 := bC.cell 0
  have b1 := bC.cell 1
  have b3 := bC.lt
  have hN1 := hide (fun (e : Later w6.heap.size w6) => hDn.out e.val (hb6.trans (e.property.mono hb6.size)))
  have hL1 := hide (fun (e : Later w6.heap.size w6) => hDl.out e.val (hb6.trans (e.property.mono hb6.size)))
  have hbh6 := hide hb6
  have g8 : (K == 0) = false := by simp; omega
  have g9 : ¬ K = 0 := by omega
  clear hW6 bC hb6
  refine wp_region_later (by kernel_rfl) (by kernel_rfl) ?_
  repeat (go_big_quiet_step (first
    | (go_at_call 35; exact calls_later (hN1.out _))
    | (go_at_call 36; exact calls_later (hL1.out _))
    | exact rfl))
  refine wpQuiet_nil ?_
  rintro _ ⟨e7, rfl⟩
  have hb7 := hide (hbh6.out.trans (e7.property.mono hbh6.out.size))
  go_wp2_with fail
  go_ret
  exact ⟨rfl, hb7.out⟩
end Go.Proofs.YtfjgpjgphdiliaaGreat

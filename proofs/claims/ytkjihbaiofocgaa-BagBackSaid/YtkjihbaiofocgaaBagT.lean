/- The walks of layer 10's reference, on: a bag's image. By the prover of this repo. -/
import Derived.Test.YtkjihbaiofocgaaBagO
import Derived.Test.YtkjihbaiofocgaaBagI
namespace Go.Proofs.Ytkjihbaiofocgaa
open Go.RowKit
attribute [local go_sem ↓] Go.wp_at_zero Go.wp_at_succ
open TwigM BagM

set_option maxRecDepth 100000 in
theorem rimage_no (k : Int) (L : Int) (v : Value) (r : List Rg) (w : World) (hv : Nds w v r) (hk : k < 0 ∨ L ≤ k) :
    Calls Try.prog 25 #[rb L v, .int .i64 k] w fun e w' => e = .returned (.tuple #[rb 0 (.slice none 0 0), .int .i64 2]) ∧ Below w.heap.size w w' := by
  obtain ⟨A, c, rfl, -, -, -, -⟩ := hv
  generalize r.length = n
  by_cases h1 : k < 0
  · clear hk
    go_enter Try.func25, Try.ntmps25
    go_wp2_with fail
    exact bodyPost_ret (v := .tuple #[rb 0 (.slice none 0 0), .int .i64 2]) (by simp [results, Try.results25, go_sem]) rfl ⟨rfl, balloc (balloc0 _ _) _⟩
  · have h2 : L ≤ k := by omega
    clear hk
    go_enter Try.func25, Try.ntmps25
    go_wp2_with fail
    exact bodyPost_ret (v := .tuple #[rb 0 (.slice none 0 0), .int .i64 2]) (by simp [results, Try.results25, go_sem]) rfl ⟨rfl, balloc (balloc0 _ _) _⟩

def RImgRel (w : World) (L M k : Int) (v : Value) (r : List Rg) (n : Nat) (G : List Rg) (kv : Value) (wr : World) : Prop :=
  ∃ (i : Nat) (l' : List Rg) (u : Value), i ≤ n ∧ kv = .int .i64 i ∧ Blk wr (w.heap.size + 1 + 1) 29 #[.int .i64 M, u] ∧ Blk wr w.heap.size 29 #[.int .i64 L, v] ∧ Blk wr (w.heap.size + 1) 29 #[.int .i64 0, .slice none 0 0] ∧ Nds wr u l' ∧ Ok l' ∧ l'.length ≤ i ∧
    Hid (putAll l' (cut k (r.drop i)) = G) ∧ tot l' + tot (r.drop i) ≤ 72057594037927935 ∧ Below w.heap.size w wr ∧ ∀ j, u.ownBlock = some j → j < wr.heap.size ∧ w.heap.size + 3 ≤ j

set_option maxRecDepth 100000 in
set_option maxHeartbeats 4000000 in
theorem rimage_yes (k : Int) (L : Int) (v : Value) (r : List Rg) (w : World) (hv : Nds w v r) (hr : Ok r) (hi0 : In L r) (hrl : r.length ≤ 500) (hL : 1 ≤ L ∧ L ≤ 48) (hk : 0 ≤ k ∧ k < L) :
    Calls Try.prog 25 #[rb L v, .int .i64 k] w fun e w' => ∃ u, e = .returned (.tuple #[rb (L - k) u, .int .i64 0]) ∧ Nds w' u (imageF k r) ∧ Below w.heap.size w w' ∧ ∀ j, u.ownBlock = some j → j < w'.heap.size ∧ w.heap.size ≤ j := by
  obtain ⟨k0, k1⟩ := hk
  have hP : Hid (∀ W, Calls Try.prog 35 #[.int .i64 k] W fun e w' => e = .returned (.int .i64 (pw k)) ∧ w' = W) := fun W => (rpower k W (by omega)).mono fun _ _ ⟨h1, h2⟩ => ⟨h1, h2.symm⟩
  have hkv := hide (fun W (hW : Below w.heap.size w W) => hv.kept hW)
  have hrp := hide hr.pos
  have hrt := hide (fun p hp => tot_le r hr.pos p hp)
  have hin := hide hi0
  have hsum : Hid (tot r ≤ 72057594037927935) := hr.most
  obtain ⟨A, c, rfl, -, -, -, -⟩ := hv
  obtain ⟨n, en⟩ : ∃ n, Hid (r.length = n) := ⟨_, rfl⟩
  rw [en.out] at hkv hrl ⊢
  have hpp := pw_pos k
  have hLk : 0 < L - k := by omega
  have hLk2 : L - k ≤ 48 := by omega
  obtain ⟨pk, hpk⟩ : ∃ pk, Hid (pw k = pk) := ⟨_, rfl⟩
  rw [hpk.out] at hP hpp
  have hstart : Hid (RImgRel w L (L - k) k (.slice A n c) r n (imageF k r) (.int .i64 0) (((w.alloc (.cells #[.int .i64 L, .slice A n c] 29)).alloc (.cells #[.int .i64 0, .slice none 0 0] 29)).alloc (.cells #[.int .i64 (L - k), .slice none 0 0] 29))) :=
    ⟨0, [], _, by omega, rfl, Blk.made_at _ _ _ (by simp), ((Blk.made w _ _).alloc _).alloc _, (Blk.made_at _ _ _ (by simp)).alloc _, Nds.nil _, Ok.nil, by simp, by show _ = _; rw [List.drop_zero]; rfl, by rw [List.drop_zero]; have := hsum.out; simp [tot]; omega, balloc (balloc (balloc0 _ _) _) _, (fun j hj => by cases hj)⟩
  clear hr hi0
  go_enter Try.func25, Try.ntmps25
  go_wp2_with fail
  go_loopw [7] (fun kv wr => RImgRel w L (L - k) k (.slice A n c) r n (imageF k r) kv wr) (fun kv _ => n - (intOf kv).toNat)
  case atStart => exact hstart.out
  case round =>
    obtain ⟨i, l', u, hi, rfl, hQ, hB, hC, hu, hok, hlen, hgo, hs, hbel, hf⟩ := hrel
    have b1 : wr.cell? ⟨w.heap.size, 1, none⟩ = some (.slice A n c) := by rw [hB.cell]; rfl
    have b2 := hB.lt
    have hnr := hkv.out wr hbel
    have huh := hide hu
    obtain ⟨Au, cu, rfl, _, _, _, _⟩ := hu
    have d0 : wr.cell? ⟨w.heap.size + 1 + 1, 0, none⟩ = some (.int .i64 (L - k)) := by rw [hQ.cell]; rfl
    have d1 : wr.cell? ⟨w.heap.size + 1 + 1, 1, none⟩ = some (.slice Au l'.length cu) := by rw [hQ.cell]; rfl
    have d2 := hQ.lt
    by_cases hlt : i < n
    · have hil : i < r.length := by rw [en.out]; exact hlt
      obtain ⟨Ar, cr, hAr, _, _, _, hrr⟩ := hnr
      obtain ⟨b, off, hbq, hbb, p0, p1⟩ := rd_at hrr hil
      have hBe : A = Ar := by injection hAr
      rw [hbq] at hBe
      subst hBe
      have hp1 := hrp.out r[i] (List.getElem_mem hil)
      have hp2 := hrt.out r[i] (List.getElem_mem hil)
      have hp3 := hin.out r[i] (List.getElem_mem hil)
      have hrest := tot_nonneg (r.drop (i + 1)) fun p hp => hrp.out p (List.mem_of_mem_drop hp)
      rw [List.drop_eq_getElem_cons hil, tot] at hs
      rw [List.drop_eq_getElem_cons hil] at hgo
      generalize r[i] = p at *
      obtain ⟨x, y⟩ := p
      simp only at p0 p1 hp1 hp2 hs hp3
      obtain ⟨z, hz⟩ : ∃ z, x / pk = z := ⟨_, rfl⟩
      have hquo : IntKind.i64.wrap (x.tdiv pk) = z := by rw [← hz]; exact IntWalk.i64_quo x pk ⟨by omega, by have := pw_le48 (show L ≤ 48 by omega); omega, hpp⟩
      replace hquo := hide hquo
      have hgo2 : Hid (putAll (put z y l') (cut k (r.drop (i + 1))) = imageF k r) := by show _ = _; rw [← hgo.out, cut_cons, putAll_cons, hpk.out, hz]
      have hput := hide (fun q : Nat => rput_c z y (L - k) l' (.slice Au l'.length cu) (wr.drewN q) (huh.out.kept (below_drewN (Below.refl _ _) q)) hok (by omega) ⟨hp1, by omega⟩)
      have hok2 := hide (hok.put z y hp1 (by omega))
      have hln2 := hide (put_len z y l')
      have htp := hide (tot_put z y l')
      have hsh : Hid (tot l' + (y + tot (r.drop (i + 1))) ≤ 72057594037927935) := hs
      have hlt2 : (i : Int) < (n : Int) := by omega
      have hBh := hide hB
      have hCh := hide hC
      have hQh := hide hQ
      have hfh := hide hf
      clear hok hgo hs hB hC hQ hf hrr hAr hz
      go_wp2_with fail
      refine wp_still_tail 16 (by kernel_rfl) (by kernel_rfl) ?_
      intro V hV
      have g0 : V.cell? ⟨w.heap.size + 1 + 1, 0, none⟩ = some (.int .i64 (L - k)) := by rw [hV]; exact d0
      have g1 : V.cell? ⟨w.heap.size + 1 + 1, 1, none⟩ = some (.slice Au l'.length cu) := by rw [hV]; exact d1
      have g2 : w.heap.size + 1 + 1 < V.heap.size := by rw [hV]; exact d2
      have g3 : V.cell? ⟨w.heap.size, 1, none⟩ = some (.slice (some ⟨b, off, none⟩) n c) := by rw [hV]; exact b1
      have g4 : w.heap.size < V.heap.size := by rw [hV]; exact b2
      have g5 : V.cell? ⟨b, off + i * 2, none⟩ = some (.int .i64 x) := by rw [hV]; exact p0
      have g6 : V.cell? ⟨b, off + i * 2 + 1, none⟩ = some (.int .i64 y) := by rw [hV]; exact p1
      have g7 : b < V.heap.size := by rw [hV]; exact hbb
      have g8 : (pk == 0) = false := by simp; omega
      have g9 : ¬ pk = 0 := by omega
      have hputV := hput.out 1
      rw [← hV] at hputV
      replace hputV := hide hputV
      have hbV : Below wr.heap.size wr V := by rw [hV]; exact below_drewN (Below.refl _ _) 1
      have hzV : Hid (V.heap.size = wr.heap.size) := by show _ = _; rw [hV]; rfl
      clear hV hput d0 d1 d2 b1 b2 p0 p1
      simp only [List.take_succ_cons, List.take_zero, List.drop_succ_cons, List.drop_zero]
      have g10 := hquo.out
      repeat (first | still_step | still_call (hP.out _))
      refine wpStill_nil ?_
      clear g8 g9 g10
      go_wp2_with (go_at_call 37; (with_reducible refine hputV.out.mono ?_); rintro e w5 ⟨u5, rfl, ho5, hb5⟩; have hbw5 := hbV.trans (hb5.mono (by rw [hzV.out]; exact Nat.le_refl _)); obtain ⟨A5, c5, rfl, _, _, _⟩ := own_form ho5; have hQ5 := hQh.out.kept hbw5; have k0 : w5.cell? ⟨w.heap.size + 1 + 1, 0, none⟩ = some (.int .i64 (L - k)) := (by rw [hQ5.cell]; rfl); have k1 : w5.cell? ⟨w.heap.size + 1 + 1, 1, none⟩ = some (.slice Au l'.length cu) := (by rw [hQ5.cell]; rfl); have k2 := hQ5.lt; have k3 := hQ5.free 0; have k4 := hQ5.free 1; replace ho5 := hide ho5)
      have hzr := hbel.size
      have hz5 := hbw5.size
      have hzV2 := hzV.out
      have hqlt := hQh.out.lt
      have hSt := (Turn.setCell w5 (fun j => j = w.heap.size + 1 + 1) ⟨w.heap.size + 1 + 1, 0, none⟩ (.int .i64 (L - k)) rfl).trans (Turn.setCell _ (fun j => j = w.heap.size + 1 + 1) ⟨w.heap.size + 1 + 1, 1, none⟩ (.slice A5 (put z y l').length c5) rfl) fun _ _ h => h
      go_roundw
      case rel =>
        refine ⟨i + 1, put z y l', _, by omega, by go_num, ?_, ((hBh.out.kept hbw5).turned hSt (by omega)), ((hCh.out.kept hbw5).turned hSt (by omega)), (own_nds ho5.out).turned hSt ?_, hok2.out, by have := hln2.out; omega, hgo2, by rw [htp.out]; have := hsh.out; omega, ?_, ?_⟩
        · have := (hQ5.set 0 (.int .i64 (L - k))).set 1 (.slice A5 (put z y l').length c5)
          simpa using this
        · intro j hj e
          have := (ho5.out.lt j hj).1
          omega
        · exact ((hbel.trans (hbw5.mono hzr)).setCell (show w.heap.size ≤ w.heap.size + 1 + 1 by omega) _).setCell (show w.heap.size ≤ w.heap.size + 1 + 1 by omega) _
        · intro j hj
          have := ho5.out.lt j hj
          exact ⟨by simp; omega, by omega⟩
      case measure => simp [intOf]; omega
    · have hres : Hid (l' = imageF k r) := by show _ = _; rw [← hgo.out, List.drop_of_length_le (by rw [en.out]; omega), cut_nil, putAll_nil]
      have e3 : wr.cell? ⟨w.heap.size + 1, 0, none⟩ = some (.int .i64 0) := by rw [hC.cell]; rfl
      have e4 : wr.cell? ⟨w.heap.size + 1, 1, none⟩ = some (.slice none 0 0) := by rw [hC.cell]; rfl
      have e5 := hC.lt
      have e6 := hC.free 0
      have e7 := hC.free 1
      have hfh := hide hf
      clear hQ hB hC hok hgo hs hf hnr
      go_wp2_with fail
      refine bodyPost_ret (v := .tuple #[rb (L - k) (.slice Au l'.length cu), .int .i64 0]) (by simp [results, Try.results25, go_sem, e3, e4]) rfl ?_
      have hSt := (Turn.setCell wr (fun j => j = w.heap.size + 1) ⟨w.heap.size + 1, 0, none⟩ (.int .i64 (L - k)) rfl).trans (Turn.setCell _ (fun j => j = w.heap.size + 1) ⟨w.heap.size + 1, 1, none⟩ (.slice Au l'.length cu) rfl) fun _ _ h => h
      refine ⟨_, rfl, ?_, (hbel.setCell (show w.heap.size ≤ w.heap.size + 1 by omega) _).setCell (show w.heap.size ≤ w.heap.size + 1 by omega) _, fun j hj => ?_⟩
      · rw [← hres.out]
        exact huh.out.turned hSt fun j hj e => by have := hfh.out j hj; omega
      · have := hfh.out j hj
        exact ⟨by simp; exact this.1, by omega⟩
end Go.Proofs.Ytkjihbaiofocgaa

/- The law LetterReads, walked. By the prover of this repo. -/
import Derived.Test.YtclndbaafibaiaaLetterQ
import Derived.Test.YtclndbaafibaiaaLetterS
import Derived.Test.YtclndbaafibaiaaLetterN
namespace Go.Proofs.Ytclndbaafibaiaa
open Go.RowKit
open VaryM SealM

theorem letter_read (all : ByteArray) (w : World) (hs : all.size ≤ 1000000000) : Calls Try.prog 47 #[.string all] w fun r w' => r = .returned (.tuple #[lv (decR all).1, .int .i64 (decR all).2]) ∧ Below w.heap.size w w' := by
  rw [← dec_eq]; exact letter_decode all w hs

set_option maxRecDepth 100000 in
set_option maxHeartbeats 1000000 in
theorem letterReads_go (t : ByteArray) (w : World) (ht : t.size ≤ 3000) (x : Let) (e : Int) (hx : decR t = (x, e)) :
    Calls Try.prog 47 #[.string t] w (fun r w' => r = .returned (.tuple #[lv x, .int .i64 e]) ∧ Below w.heap.size w w') ∧ Calls Try.prog 48 #[.string t] w (fun r w' => r = .returned (.tuple #[lv x, .int .i64 e]) ∧ Below w.heap.size w w') := by
  have h1 := letter_read t w (by omega)
  have h2 := ref29_decode t w (by omega)
  rw [hx] at h1 h2
  exact ⟨h1, h2⟩

set_option maxRecDepth 100000 in
set_option maxHeartbeats 1000000 in
theorem letterReads_walk (s : ByteArray) (b : Bool) (w : World) (hs : s.size ≤ 140737488351232) : Calls Try.prog 12 #[.agg #[.string s, .bool b]] w fun e w' => e = .returned (.bool true) ∧ Below w.heap.size w w' := by
  have hS := fun W => ref_seal s W (by omega)
  have hzs : (sealed s).size = s.size + 4 := sealed_size s
  generalize hts : sealed s = ts at hS hzs
  clear hts
  replace hS := hide hS
  have hlen : Hid (ts.size = s.size + 4) := hzs
  have hz1 : (ts.size : Int) ≤ 140737488351236 := by omega
  have hz2 : (s.size : Int) ≤ 140737488351232 := by omega
  clear hzs
  cases b
  · by_cases hg : 3000 < s.size
    · go_enter Try.func12, Try.ntmps12
      go_wp2_with fail
      refine (alive29 _).mono ?_
      rintro e w1 ⟨rfl, hb1⟩
      go_wp2_with fail
      go_ret
      exact ⟨rfl, bthen (balloc0 _ _) hb1⟩
    · obtain ⟨⟨ep, fr, co, bo⟩, er, hx⟩ : ∃ x e, decR s = (x, e) := ⟨_, _, rfl⟩
      have hD := hide (fun W => letterReads_go s W (by omega) _ _ hx)
      clear hx
      have hM := hide (fun W => law29_made ⟨ep, fr, co, bo⟩ W)
      go_enter Try.func12, Try.ntmps12
      go_wp2_with fail
      refine (hD.out _).1.mono ?_
      rintro e w1 ⟨rfl, hb1⟩
      go_wp2_with fail
      refine (hD.out _).2.mono ?_
      rintro e w2 ⟨rfl, hb2⟩
      have hX := (Blk.made w1 68 #[.int .i64 ep, .int .i64 fr, .int .u64 co, .string bo]).kept hb2
      have hlt := hX.lt
      have c0 := hX.cell 0
      have c1 := hX.cell 1
      have c2 := hX.cell 2
      have c3 := hX.cell 3
      simp only [List.getElem?_toArray, List.getElem?_cons_zero, List.getElem?_cons_succ] at c0 c1 c2 c3
      go_wp2_with fail
      refine wp_region_later (by kernel_rfl) (by kernel_rfl) ?_
      repeat (go_big_quiet_step (first | (go_at_call 44; exact calls_later (hM.out _)) | (go_at_call 41; exact calls_later (alive29 _)) | exact rfl))
      refine wpQuiet_nil ?_
      rintro _ ⟨e1, rfl⟩
      go_wp2_with fail
      go_ret
      exact ⟨rfl, bthen (balloc (bthen (balloc (bthen (balloc0 _ _) hb1) _) hb2) _) e1.property⟩
  · by_cases hg : 3000 < ts.size
    · go_enter Try.func12, Try.ntmps12
      go_wp2_with fail
      refine (hS.out _).mono ?_
      rintro e w0 ⟨rfl, hb0⟩
      go_wp2_with fail
      refine (alive29 _).mono ?_
      rintro e w1 ⟨rfl, hb1⟩
      go_wp2_with fail
      go_ret
      exact ⟨rfl, bthen (bthen (balloc0 _ _) hb0) hb1⟩
    · obtain ⟨⟨ep, fr, co, bo⟩, er, hx⟩ : ∃ x e, decR ts = (x, e) := ⟨_, _, rfl⟩
      have hD := hide (fun W => letterReads_go ts W (by omega) _ _ hx)
      clear hx
      have hM := hide (fun W => law29_made ⟨ep, fr, co, bo⟩ W)
      go_enter Try.func12, Try.ntmps12
      go_wp2_with fail
      refine (hS.out _).mono ?_
      rintro e w0 ⟨rfl, hb0⟩
      go_wp2_with fail
      refine (hD.out _).1.mono ?_
      rintro e w1 ⟨rfl, hb1⟩
      go_wp2_with fail
      refine (hD.out _).2.mono ?_
      rintro e w2 ⟨rfl, hb2⟩
      have hX := (Blk.made w1 68 #[.int .i64 ep, .int .i64 fr, .int .u64 co, .string bo]).kept hb2
      have hlt := hX.lt
      have c0 := hX.cell 0
      have c1 := hX.cell 1
      have c2 := hX.cell 2
      have c3 := hX.cell 3
      simp only [List.getElem?_toArray, List.getElem?_cons_zero, List.getElem?_cons_succ] at c0 c1 c2 c3
      go_wp2_with fail
      refine wp_region_later (by kernel_rfl) (by kernel_rfl) ?_
      repeat (go_big_quiet_step (first | (go_at_call 44; exact calls_later (hM.out _)) | (go_at_call 41; exact calls_later (alive29 _)) | exact rfl))
      refine wpQuiet_nil ?_
      rintro _ ⟨e1, rfl⟩
      go_wp2_with fail
      go_ret
      exact ⟨rfl, bthen (balloc (bthen (balloc (bthen (bthen (balloc0 _ _) hb0) hb1) _) hb2) _) e1.property⟩
end Go.Proofs.Ytclndbaafibaiaa

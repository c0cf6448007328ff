/- The walks of layer 29, on: the reference's bytes of a letter. By the prover of this repo. -/
import Derived.Test.YtclndbaafibaiaaLetterE
namespace Go.Proofs.Ytclndbaafibaiaa
open Go.RowKit
open VaryM SealM

theorem plain_join (ep fr co : Int) (body : ByteArray) : (((((⟨#[68, 87, 76, 1]⟩ : ByteArray) ++ encStr ep) ++ encStr fr) ++ encStr co) ++ encStr (body.size : Int)) ++ body = plainF ⟨ep, fr, co, body⟩ :=
  str_ext (by simp [plainF, encsStr, encStr, encs, nums])

set_option maxRecDepth 100000 in
set_option maxHeartbeats 400000 in
theorem ref29_encode_yes (x : Let) (h : x.Wf) (w : World) (hr : rightF x = true) : Calls Try.prog 43 #[lv x] w fun e w' => e = .returned (.tuple #[.string (sealed (plainF x)), .int .i64 0]) ∧ Below w.heap.size w w' := by
  have hR := fun W => ref29_right x h W
  rw [hr] at hR
  have hp := right_parts hr
  have hps := plain_size x ⟨h.e1, by omega, by omega, by omega⟩
  obtain ⟨ep, fr, co, body⟩ := x
  obtain ⟨h1, h2, h3, h4, h5, h6, h7⟩ := h
  simp only at h1 h2 h3 h4 h5 h6 h7 hp
  have hS := fun W => ref_seal (plainF ⟨ep, fr, co, body⟩) W (by omega)
  generalize sealed (plainF ⟨ep, fr, co, body⟩) = SS at hS
  rw [← plain_join] at hS
  clear hps
  have e1 := enc_len9 (n := ep.toNat) (by omega)
  have e2 := enc_len9 (n := fr.toNat) (by omega)
  have e3 := enc_len9 (n := co.toNat) (by omega)
  have e4 := enc_len9 (n := body.size) (by omega)
  have s1 := encStr_size ep
  have s2 := encStr_size fr
  have s3 := encStr_size co
  have s4 : (encStr (body.size : Int)).size = (enc body.size).length := rfl
  replace hS := hide hS
  replace hR := hide hR
  go_enter Try.func43, Try.ntmps43
  go_wp2_with fail
  refine (hR.out _).mono ?_
  rintro e w1 ⟨rfl, hb1⟩
  have hbl := (Blk.made w 72 #[.int .i64 ep, .int .i64 fr, .int .u64 co, .string body]).kept hb1
  have hlt := hbl.lt
  have c0 := hbl.cell 0
  have c1 := hbl.cell 1
  have c2 := hbl.cell 2
  have c3 := hbl.cell 3
  simp only [List.getElem?_toArray, List.getElem?_cons_zero, List.getElem?_cons_succ] at c0 c1 c2 c3
  go_wp2_with fail
  refine wp_region_later (by kernel_rfl) (by kernel_rfl) ?_
  repeat (go_big_quiet_step (first | (go_at_call 30; exact calls_later (ref22_one _ _ (by omega) (by omega))) | (go_at_call 26; exact calls_later (hS.out _)) | exact rfl))
  refine wpQuiet_nil ?_
  rintro _ ⟨e1, rfl⟩
  go_wp2_with fail
  go_ret2
  exact ⟨rfl, bthen (bthen (balloc0 _ _) hb1) e1.property⟩

theorem ref29_encode (x : Let) (h : x.Wf) (w : World) : Calls Try.prog 43 #[lv x] w fun e w' => e = .returned (.tuple #[.string (encodeF x).1, .int .i64 (encodeF x).2]) ∧ Below w.heap.size w w' := by
  unfold encodeF
  by_cases hr : rightF x = true
  · rw [if_pos hr]; exact ref29_encode_yes x h w hr
  · rw [if_neg hr]
    have hR := fun W => ref29_right x h W
    rw [show rightF x = false by simpa using hr] at hR
    obtain ⟨ep, fr, co, body⟩ := x
    replace hR := hide hR
    go_enter Try.func43, Try.ntmps43
    go_wp2_with fail
    refine (hR.out _).mono ?_
    rintro e w1 ⟨rfl, hb1⟩
    go_wp2_with fail
    go_ret2
    exact ⟨rfl, bthen (balloc0 _ _) hb1⟩

theorem law29_made (x : Let) (w : World) : Calls Try.prog 44 #[lv x] w fun e w' => e = .returned (lv x) ∧ Below w.heap.size w w' := by
  obtain ⟨ep, fr, co, body⟩ := x
  go_enter Try.func44, Try.ntmps44
  go_wp2_with fail
  refine bodyPost_ret (v := lv ⟨ep, fr, co, body⟩) (by simp [results, Try.results44, go_sem, lv]) rfl ⟨rfl, ?_⟩
  first
    | exact balloc (balloc0 _ _) _
    | (refine ((((balloc (balloc0 _ _) _).setCell ?_ _).setCell ?_ _).setCell ?_ _).setCell ?_ _ <;> simp)
    | trace_state
end Go.Proofs.Ytclndbaafibaiaa

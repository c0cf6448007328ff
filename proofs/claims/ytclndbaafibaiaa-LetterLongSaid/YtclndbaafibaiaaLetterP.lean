/- The law LetterWrites, walked. By the prover of this repo. -/
import Derived.Test.YtclndbaafibaiaaLetterN
namespace Go.Proofs.Ytclndbaafibaiaa
open Go.RowKit
open VaryM SealM

set_option maxRecDepth 100000 in
set_option maxHeartbeats 400000 in
theorem letterWrites_walk (x : Let) (w : World) (h : x.Wf) : Calls Try.prog 11 #[lv x] w fun e w' => e = .returned (.bool true) ∧ Below w.heap.size w w' := by
  have hE := hide (fun W => letter_encode x h W)
  have hF := hide (fun W => ref29_encode x h W)
  have hM := hide (fun W => law29_made x W)
  have hR := hide (fun W => letter_right x h W)
  have hS := hide (fun W => ref29_right x h W)
  have hsz := encode_size x h
  have h7 := h.b1
  by_cases hg : 3000 < x.body.size
  · obtain ⟨ep, fr, co, body⟩ := x
    simp only at hg h7
    go_enter Try.func11, Try.ntmps11
    go_wp2_with fail
    refine (alive29 _).mono ?_
    rintro e w1 ⟨rfl, hb1⟩
    go_wp2_with fail
    go_ret
    exact ⟨rfl, bthen (balloc0 _ _) hb1⟩
  · obtain ⟨ep, fr, co, body⟩ := x
    simp only at hg h7 hsz
    have hc : (rightF ⟨ep, fr, co, body⟩ = true ∧ ∃ t : ByteArray, encodeF ⟨ep, fr, co, body⟩ = (t, 0) ∧ (t.size : Int) ≤ 28 + (body.size : Int)) ∨ (rightF ⟨ep, fr, co, body⟩ = false ∧ encodeF ⟨ep, fr, co, body⟩ = (⟨#[]⟩, 2)) := by
      by_cases hr : rightF ⟨ep, fr, co, body⟩ = true
      · exact .inl ⟨hr, _, if_pos hr, by have := hsz hr; omega⟩
      · exact .inr ⟨by simpa using hr, if_neg hr⟩
    clear hsz
    generalize encodeF ⟨ep, fr, co, body⟩ = p at hE hF hc
    generalize rightF ⟨ep, fr, co, body⟩ = r at hR hS hc
    rcases hc with ⟨rfl, t, rfl, ht⟩ | ⟨rfl, rfl⟩
    all_goals
      go_enter Try.func11, Try.ntmps11
      go_wp2_with fail
      refine (hE.out _).mono ?_
      rintro e w1 ⟨rfl, hb1⟩
      have hbl := (Blk.made w 68 #[.int .i64 ep, .int .i64 fr, .int .u64 co, .string body]).kept hb1
      have hlt := hbl.lt
      have c0 := hbl.cell 0
      have c1 := hbl.cell 1
      have c2 := hbl.cell 2
      have c3 := hbl.cell 3
      simp only [List.getElem?_toArray, List.getElem?_cons_zero, List.getElem?_cons_succ] at c0 c1 c2 c3
      go_wp2_with fail
      refine (hM.out _).mono ?_
      rintro e w2 ⟨rfl, hb2⟩
      go_wp2_with fail
      refine (hF.out _).mono ?_
      rintro e w3 ⟨rfl, hb3⟩
      have hbl3 := (hbl.kept hb2).kept hb3
      have hlt3 := hbl3.lt
      have d0 := hbl3.cell 0
      have d1 := hbl3.cell 1
      have d2 := hbl3.cell 2
      have d3 := hbl3.cell 3
      simp only [List.getElem?_toArray, List.getElem?_cons_zero, List.getElem?_cons_succ] at d0 d1 d2 d3
      go_wp2_with fail
      refine wp_region_later (by kernel_rfl) (by kernel_rfl) ?_
      repeat (go_big_quiet_step (first | (go_at_call 45; exact calls_later (hR.out _)) | (go_at_call 44; exact calls_later (hM.out _)) | (go_at_call 46; exact calls_later (hS.out _)) | (go_at_call 41; exact calls_later (alive29 _)) | exact rfl))
      refine wpQuiet_nil ?_
      rintro _ ⟨e1, rfl⟩
      go_wp2_with fail
      go_ret
      exact ⟨rfl, bthen (bthen (bthen (bthen (balloc0 _ _) hb1) hb2) hb3) e1.property⟩
end Go.Proofs.Ytclndbaafibaiaa

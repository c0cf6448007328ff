/- Layer 10: whether a bag has just the values that the reference's has. By the prover of this repo. -/
import Derived.Test.YtkjihbaiofocgaaBagG
namespace Go.Proofs.Ytkjihbaiofocgaa
open Go.RowKit
attribute [local go_sem ↓] Go.wp_at_zero Go.wp_at_succ
open TwigM BagM

set_option maxRecDepth 100000 in
set_option maxHeartbeats 4000000 in
theorem like_c (g : Nat) (L : Int) (l : List Rg) (v u : Value) (w : World) (h : BagAt w g L l v) (hu : Nds w u l) (ho : Ok l) (hl : l.length ≤ 1000) :
    Calls Try.prog 13 #[.pointer (some ⟨g, 0, none⟩), rb L u] w fun e w' => e = .returned (.bool true) ∧ Below w.heap.size w w' := by
  obtain ⟨W0, hW0⟩ : ∃ W0, W0 = w.alloc (.cells #[.int .i64 L, u] 29) := ⟨_, rfl⟩
  have hb0 : Below w.heap.size w W0 := by rw [hW0]; exact balloc0 _ _
  have hbx : Blk W0 w.heap.size 29 #[.int .i64 L, u] := by rw [hW0]; exact Blk.made _ _ _
  have h1 := hide (fun W (hW : Below W0.heap.size W0 W) => bagL_c g L _ l v W ((h.kept hb0).kept hW))
  have h2 := hide (fun W (hW : Below W0.heap.size W0 W) => bagLen_c g L _ l v W ((h.kept hb0).kept hW))
  have h3 := hide (fun W (hW : Below W0.heap.size W0 W) => bagTotal_c g L _ l v W ((h.kept hb0).kept hW))
  have h4 := hide (fun W (hW : Below W0.heap.size W0 W) => rtotal_c L l u W ((hu.kept hb0).kept hW) ho (by omega))
  have h5 : Hid (∀ W, Below W0.heap.size W0 W → Calls Try.prog 33 #[.pointer (some ⟨g, 0, none⟩)] W fun r w' => ∃ A5 c5, r = .returned (.slice A5 l.length c5) ∧ Hid (Nds w' (.slice A5 l.length c5) l) ∧ Below W.heap.size W w') := fun W hW =>
    (items_c g L _ l v W ((h.kept hb0).kept hW) (by omega)).mono fun r w' ⟨u5, e, ho5, hb5⟩ => by
      obtain ⟨A5, c5, rfl, _, _, _⟩ := own_form ho5
      exact ⟨A5, c5, e, own_nds ho5, hb5⟩
  have h6 := fun W x (hx : Nds W x l) (hW : Below W0.heap.size W0 W) => same_n l l W x u (by omega) (by omega) hx ((hu.kept hb0).kept hW)
  rw [decide_eq_true rfl] at h6
  have hf := hide (fun W (hW : Below W0.heap.size W0 W) => show (W.cell? ⟨w.heap.size, 0, none⟩ = some (.int .i64 L) ∧ W.cell? ⟨w.heap.size, 1, none⟩ = some u ∧ w.heap.size < W.heap.size) from
    ⟨by rw [(hbx.kept hW).cell]; rfl, by rw [(hbx.kept hW).cell]; rfl, (hbx.kept hW).lt⟩)
  replace h6 := hide h6
  obtain ⟨A, c, rfl, _, _, _, _⟩ := hu
  obtain ⟨a0, a1, a2⟩ := hf.out W0 (Below.refl _ _)
  replace hW0 := hide hW0
  clear h ho hbx
  generalize tot l = t at *
  generalize hln : l.length = n at *
  replace hln := hide hln
  have hb0h := hide hb0
  clear hb0
  go_enter Try.func13, Try.ntmps13
  go_wp2_with fail
  rw [← hW0.out]
  go_region_with (first
    | (go_at_call 31; ((with_reducible refine (h1.out _ ?_).mono ?_); (first | exact (Below.refl _ _).drew | exact Below.refl _ _); rintro e w1 ⟨rfl, rfl⟩))
    | (go_at_call 32; ((with_reducible refine (h2.out _ ?_).mono ?_); (first | exact (Below.refl _ _).drew | exact Below.refl _ _); rintro e w1 ⟨rfl, rfl⟩))
    | (go_at_call 23; ((with_reducible refine (h3.out _ ?_).mono ?_); (first | exact (Below.refl _ _).drew | exact Below.refl _ _ | exact hc4); rintro e w1 ⟨rfl, rfl⟩))
    | (go_at_call 36; ((with_reducible refine (h4.out _ ?_).mono ?_); (first | exact (Below.refl _ _).drew | exact Below.refl _ _); rintro e w4 ⟨rfl, hb4⟩; have hc4 := (Below.refl W0.heap.size W0).drew.trans hb4; obtain ⟨b0, b1, b2⟩ := hf.out _ hc4))
    | (go_at_call 33; ((with_reducible refine (h5.out _ ?_).mono ?_); (first | exact hc4); rintro e w5 ⟨A5, c5, rfl, hn5, hb5⟩; have hc5 := bthen hc4 hb5; obtain ⟨e0, e1, e2⟩ := hf.out _ hc5))
    | (go_at_call 34; ((with_reducible refine (h6.out _ _ hn5.out hc5).mono ?_); rintro e w6 ⟨rfl, hb6⟩)))
  all_goals go_wp2_with fail
  all_goals
    go_ret
    exact ⟨rfl, hb0h.out.trans ((bthen hc5 hb6).mono hb0h.out.size)⟩
end Go.Proofs.Ytkjihbaiofocgaa

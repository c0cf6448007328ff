/- Part 44 of the proof: texts joined by this repo's tools/merge2.py (Med). By the prover of this repo. -/
import Derived.Test.YteebghoijaaakaaGreatM15
import Derived.Test.YteebghoijaaakaaGreatM5
set_option linter.unusedVariables false
set_option linter.unusedSimpArgs false
/- The walk of quant.Median of the digest that the law's example makes. By the prover of this repo. -/
namespace Go.Proofs.YteebghoijaaakaaGreat
open Go.RowKit
open TwigM RollM StoM

set_option maxRecDepth 100000 in
theorem div64_c (w : World) : Calls Tryz.prog 192 #[.int .u64 0, .int .u64 2, .int .u64 2] w fun e w' => e = .returned (.tuple #[.int .u64 1, .int .u64 0]) ∧ Below w.heap.size w w' := by
  go_enter Tryz.func192, Tryz.ntmps192
  go_wp2_with fail
  refine wp_region_later (by kernel_rfl) (by kernel_rfl) ?_
  repeat (go_big_quiet_step (exact rfl))
  refine wpQuiet_nil ?_
  rintro _ ⟨e1, rfl⟩
  go_wp2_with fail
  go_ret2
  exact ⟨rfl, e1.property⟩
theorem share_c (w : World) : Calls Tryz.prog 172 #[.int .i64 2, .int .i64 1, .int .i64 2] w fun e w' => e = .returned (.tuple #[.int .u64 1, .int .u64 0, .bool true]) ∧ Below w.heap.size w w' := by
  have hC := hide (fun W => reckon_counts 2 1 W)
  have hM := hide (fun W => Tryz.bits_Mul64 2 1 (by omega) (by omega) W)
  have hD := hide (fun W => div64_c W)
  go_enter Tryz.func172, Tryz.ntmps172
  go_wp2_with fail
  refine Calls.mono (hC.out _) ?_
  rintro e w1 ⟨rfl, rfl⟩
  go_wp2_with fail
  refine Calls.mono (hM.out _) ?_
  rintro e w2 ⟨rfl, rfl⟩
  go_wp2_with fail
  refine Calls.mono (hD.out _) ?_
  rintro e w3 ⟨rfl, hb3⟩
  go_wp2_with fail
  go_ret3
  exact ⟨rfl, hb3⟩
theorem part_c (w : World) : Calls Tryz.prog 134 #[.int .i64 2, .int .i64 1, .int .i64 2] w fun e w' => e = .returned (.tuple #[.int .i64 1, .bool true]) ∧ Below w.heap.size w w' := by
  have hS := hide (share_c w)
  go_enter Tryz.func134, Tryz.ntmps134
  go_wp2_with fail
  refine Calls.mono hS.out ?_
  rintro e w1 ⟨rfl, hb1⟩
  go_wp2_with go_in
  go_ret2
  exact ⟨rfl, hb1⟩
theorem elEnd : Elem Tryz.prog 188 221 (.agg #[.int .i64 0, .int .i64 0]) 2 16 := ⟨Tryz.underlying188, by kernel_rfl, rfl, by omega⟩
section
variable {d p : Nat} {F : Nat → Prop} {w : World}
theorem med_wrong (h : DigAt w d p 2 2 3 [(13, 2)] F) : Calls Tryz.prog 133 #[.pointer (some ⟨d, 0, none⟩), .int .i64 1] w fun e w' => e = .returned (.int .i64 0) ∧ Below w.heap.size w w' := by
  have hN := hide (fun W (hW : Below w.heap.size w W) => digest_n d p 2 2 3 [(13, 2)] F W (h.kept hW))
  rw [show sumL [((13 : Int), (2 : Int))] = 2 from rfl] at hN
  clear h
  go_enter Tryz.func133, Tryz.ntmps133
  go_wp2_with fail
  refine Calls.mono (hN.out _ (Below.refl _ _)) ?_
  rintro e w1 ⟨rfl, hb1⟩
  have hb1 := hide hb1
  go_wp2_with fail
  refine Calls.mono (hN.out _ hb1.out) ?_
  rintro e w2 ⟨rfl, hb2⟩
  have hb2 := hide (hb1.out.trans (hb2.mono hb1.out.size))
  go_wp2_with fail
  go_ret
  exact ⟨rfl, hb2.out⟩
theorem med_rank (h : DigAt w d p 2 2 3 [(13, 2)] F) : Calls Tryz.prog 90 #[.pointer (some ⟨d, 0, none⟩), .int .i64 1, .int .i64 2] w fun e w' => e = .returned (.tuple #[.int .i64 1, .int .i64 0]) ∧ Below w.heap.size w w' := by
  have hW := hide (med_wrong h)
  have hN := hide (fun W (hW : Below w.heap.size w W) => digest_n d p 2 2 3 [(13, 2)] F W (h.kept hW))
  rw [show sumL [((13 : Int), (2 : Int))] = 2 from rfl] at hN
  have hP := hide (fun W => part_c W)
  have hmax : max (1 : Int) 1 = 1 := rfl
  clear h
  go_enter Tryz.func90, Tryz.ntmps90
  go_wp2_with fail
  refine Calls.mono hW.out ?_
  rintro e w1 ⟨rfl, hb1⟩
  have hb1 := hide hb1
  go_wp2_with fail
  refine Calls.mono (hN.out _ hb1.out) ?_
  rintro e w2 ⟨rfl, hb2⟩
  have hb2 := hide (hb1.out.trans (hb2.mono hb1.out.size))
  go_wp2_with fail
  refine Calls.mono (hP.out _) ?_
  rintro e w3 ⟨rfl, hb3⟩
  have hb3 := hide (hb2.out.trans (hb3.mono hb2.out.size))
  go_wp2_with fail
  go_ret2
  exact ⟨rfl, hb3.out⟩
set_option maxRecDepth 100000 in
theorem med_ends (h : DigAt w d p 2 2 3 [(13, 2)] F) : Calls Tryz.prog 136 #[.pointer (some ⟨d, 0, none⟩), .bool false] w fun e w' => ∃ v, e = .returned v ∧ w'.ownsRow w.heap.size 221 2 v 1 [.int .i64 5, .int .i64 2] ∧ Below w.heap.size w w' := by
  have hC := hide (digest_conf d p 2 2 3 [(13, 2)] F w h)
  have hN := hide (fun W (hW : Below w.heap.size w W) => digest_nodes d p 2 2 3 [(13, 2)] F W (h.kept hW))
  have hlg : lg 13 = 3 := lg_unique (by omega) (by decide) (by decide)
  have hlo : loF 3 13 = 5 := by unfold loF; rw [hlg]; decide
  have hE := hide (fun W => ends_yes 3 13 W (by omega) (by omega) (by omega) (by decide))
  rw [hlo, hlg, show pw (3 - 3) = 1 from rfl, show (5 : Int) + 1 - 1 = 5 from rfl] at hE
  clear h hlg hlo
  unfold conf at hC
  have hfld : ∀ W : World, (Instr.field 42 (.agg #[.int .i64 3, .int .i64 2, .int .i64 2]) 0).run Tryz.prog W = .ok (.int .i64 3) W := fun _ => by kernel_rfl
  go_enter Tryz.func136, Tryz.ntmps136
  go_wp2_with fail
  refine Calls.mono hC.out ?_
  rintro e w1 ⟨rfl, hb1⟩
  have hb1 := hide hb1
  go_wp2_with fail
  refine Calls.mono (hN.out _ hb1.out) ?_
  rintro e w2 ⟨v, rfl, hv, hb2⟩
  obtain ⟨A, c, rfl, hA1, hA2, hA3⟩ := own_form hv
  have hbs1 := hb1.out.size
  have hv := hide (own_dn hbs1 hv)
  have hb2 := hide (hb1.out.trans (hb2.mono hbs1))
  simp only [List.length_cons, List.length_nil, Nat.zero_add] at hv hA1 hA2 ⊢
  go_wp2_with fail
  go_loopw [5, 18] (fun ov kv wr => Hid (Below w.heap.size w wr) ∧ ((kv = .int .i64 0 ∧ ov = .slice none 0 0 ∧ Hid (wr.ownsRow w.heap.size 67 2 (.slice A 1 c) 1 (ndv [(13, 2)]))) ∨ (kv = .int .i64 1 ∧ Hid (wr.ownsRow w.heap.size 221 2 ov 1 [.int .i64 5, .int .i64 2])))) (fun _ kv _ => 1 - (intOf kv).toNat)
  case atStart => exact ⟨hb2, .inl ⟨rfl, rfl, hv⟩⟩
  case round =>
    obtain ⟨hbel, ⟨rfl, rfl, hrow⟩ | ⟨rfl, hown⟩⟩ := hrel
    · clear hv hb2
      obtain ⟨g, cap, e1, hg, cx, cn⟩ := nd_at (l := [(13, 2)]) (i := 0) hrow.out (by decide)
      injection e1 with e1 e2 e3
      subst e1 e3
      clear e2
      simp only [List.getElem_cons_zero, Nat.zero_mul, Nat.zero_add] at cx cn
      have hbs := hbel.out.size
      have bN := Blk.made wr 67 #[.int .i64 13, .int .i64 2]
      go_wp2_with fail
      refine Calls.mono (hE.out _) ?_
      rintro e w7 ⟨rfl, m, rfl⟩
      have hb7 := below_drewN (balloc0 wr (.cells #[.int .i64 13, .int .i64 2] 67)) m
      have bN7 := bN.drewN m
      have z0 := bN7.cell 0
      have z1 := bN7.cell 1
      have z2 := bN7.lt
      have hb8 := hide (hbel.out.trans (hb7.mono hbs))
      generalize ((wr.alloc (.cells #[.int .i64 13, .int .i64 2] 67)).drewN m) = w8 at *
      have hnil := World.ownsRow_nil w8 w.heap.size 221 2
      have hz8 := hb8.out.size
      clear hb7 bN bN7 cx cn hg
      go_wp2_with (at_builtin; refine wpList_app1 elEnd rfl (.tmp 32) (.tmp 37) rfl w.heap.size _ 0 [] [.int .i64 5, .int .i64 2] 221 rfl hnil rfl rfl (one2 rfl rfl) (by omega) hz8 ?_; intro v9 w9 how9 hb9 _ _)
      go_roundw
      case rel => exact ⟨hb8.out.trans hb9, .inr ⟨by go_num, how9⟩⟩
      case measure => simp [intOf]
    · go_wp2_with fail
      go_ret
      exact ⟨_, rfl, hown.out, hbel.out⟩
set_option maxRecDepth 100000 in
theorem med_ins (A : Option Addr) (c : Nat) (f : Value) (W : World) : Calls Tryz.prog 199 #[.slice A 1 c, .int .i64 0, .int .i64 1, f] W fun e w' => (∃ v, e = .returned v) ∧ W = w' := by
  go_enter Tryz.func199, Tryz.ntmps199
  go_wp2_with fail
  go_loop [8] (fun k => k = .int .i64 1) (fun _ => 0)
  case atStart => rfl
  case round =>
    subst hrel
    go_wp2_with fail
    go_end0
    exact ⟨⟨_, rfl⟩, rfl⟩
set_option maxRecDepth 100000 in
theorem med_pdq (A : Option Addr) (c : Nat) (x : Int) (f : Value) (W : World) : Calls Tryz.prog 193 #[.slice A 1 c, .int .i64 0, .int .i64 1, .int .i64 x, f] W fun e w' => (∃ v, e = .returned v) ∧ W = w' := by
  have hI := hide (med_ins A c f W)
  go_enter Tryz.func193, Tryz.ntmps193
  go_wp2_with fail
  go_loop [1, 2] (fun a b => a = .int .i64 0 ∧ b = .int .i64 1) (fun _ _ => 0)
  case atStart => exact ⟨rfl, rfl⟩
  case round =>
    obtain ⟨rfl, rfl⟩ := hrel
    go_wp2_with fail
    refine Calls.mono hI.out ?_
    rintro e w1 ⟨⟨v, rfl⟩, rfl⟩
    go_wp2_with fail
    exact bodyPost_ret (v := .tuple #[]) (by simp [results, Tryz.results193, go_sem]) rfl ⟨⟨_, rfl⟩, rfl⟩
theorem med_sort (A : Option Addr) (c : Nat) (f : Value) (W : World) : Calls Tryz.prog 174 #[.slice A 1 c, f] W fun e w' => (∃ v, e = .returned v) ∧ W = w' := by
  have hB := hide (Tryz.bits_Len 1 W (by omega) (by omega))
  have hP := hide (med_pdq A c (Lib.bitLen 1) f W)
  rw [show ((1 : Int).toNat) = 1 from rfl] at hB
  generalize Lib.bitLen 1 = x at *
  go_enter Tryz.func174, Tryz.ntmps174
  go_wp2_with fail
  refine Calls.mono hB.out ?_
  rintro e w1 ⟨rfl, rfl⟩
  go_wp2_with fail
  refine Calls.mono hP.out ?_
  rintro e w1 ⟨⟨v, rfl⟩, rfl⟩
  go_wp2_with fail
  go_end0
  exact ⟨⟨_, rfl⟩, rfl⟩
theorem med_reach (v : Value) (b : Nat) (hv : w.ownsRow b 221 2 v 1 [.int .i64 5, .int .i64 2]) : Calls Tryz.prog 135 #[v, .int .i64 1] w fun e w' => e = .returned (.int .i64 5) ∧ w = w' := by
  obtain ⟨A, c, rfl, hA1, hA2, hA3⟩ := own_form hv
  have hr := own_rd hv
  obtain ⟨g, off, rfl, hg, hc⟩ := hr (by omega)
  have c0 := hc 0 (by omega)
  have c1 := hc 1 (by omega)
  have hS := hide (fun f => med_sort (some ⟨g, off, none⟩) c f w)
  clear hv hr hc
  simp at c0 c1
  go_enter Tryz.func135, Tryz.ntmps135
  go_wp2_with fail
  refine Calls.mono (hS.out _) ?_
  rintro e w1 ⟨⟨v, rfl⟩, rfl⟩
  go_wp2_with fail
  go_loop [1, 5] (fun r k => r = .int .i64 1 ∧ k = .int .i64 0) (fun _ _ => 0)
  case atStart => exact ⟨rfl, rfl⟩
  case round =>
    obtain ⟨rfl, rfl⟩ := hrel
    go_wp2_with fail
    go_ret
    exact ⟨rfl, rfl⟩
theorem med_at (h : DigAt w d p 2 2 3 [(13, 2)] F) : Calls Tryz.prog 91 #[.pointer (some ⟨d, 0, none⟩), .int .i64 1] w fun e w' => e = .returned (.tuple #[.int .i64 5, .int .i64 0]) ∧ Below w.heap.size w w' := by
  have hW := hide (med_wrong h)
  have hE := hide (fun W (hW : Below w.heap.size w W) => med_ends (h.kept hW))
  clear h
  go_enter Tryz.func91, Tryz.ntmps91
  go_wp2_with fail
  refine Calls.mono hW.out ?_
  rintro e w1 ⟨rfl, hb1⟩
  have hb1 := hide hb1
  go_wp2_with fail
  refine Calls.mono (hE.out _ hb1.out) ?_
  rintro e w2 ⟨v, rfl, hv, hb2⟩
  have hR := hide (med_reach v _ hv)
  have hb2 := hide (hb1.out.trans (hb2.mono hb1.out.size))
  clear hv
  go_wp2_with fail
  refine Calls.mono hR.out ?_
  rintro e w3 ⟨rfl, rfl⟩
  go_wp2_with fail
  go_ret2
  exact ⟨rfl, hb2.out⟩
theorem med_of (h : DigAt w d p 2 2 3 [(13, 2)] F) : Calls Tryz.prog 50 #[.pointer (some ⟨d, 0, none⟩), .int .i64 1, .int .i64 2] w fun e w' => e = .returned (.tuple #[.int .i64 5, .int .i64 0]) ∧ Below w.heap.size w w' := by
  have hR := hide (med_rank h)
  have hA := hide (fun W (hW : Below w.heap.size w W) => med_at (h.kept hW))
  clear h
  go_enter Tryz.func50, Tryz.ntmps50
  go_wp2_with fail
  refine Calls.mono hR.out ?_
  rintro e w1 ⟨rfl, hb1⟩
  have hb1 := hide hb1
  go_wp2_with fail
  refine Calls.mono (hA.out _ hb1.out) ?_
  rintro e w2 ⟨rfl, hb2⟩
  have hb2 := hide (hb1.out.trans (hb2.mono hb1.out.size))
  go_wp2_with fail
  go_ret2
  exact ⟨rfl, hb2.out⟩
theorem med_c (h : DigAt w d p 2 2 3 [(13, 2)] F) : Calls Tryz.prog 16 #[.pointer (some ⟨d, 0, none⟩)] w fun e w' => e = .returned (.tuple #[.int .i64 5, .int .i64 0]) ∧ Below w.heap.size w w' := by
  have hO := hide (med_of h)
  clear h
  go_enter Tryz.func16, Tryz.ntmps16
  go_wp2_with fail
  refine Calls.mono hO.out ?_
  rintro e w1 ⟨rfl, hb1⟩
  have hb1 := hide hb1
  go_wp2_with fail
  go_ret2
  exact ⟨rfl, hb1.out⟩
end
end Go.Proofs.YteebghoijaaakaaGreat

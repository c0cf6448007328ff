/- Part 22 of the proof: texts joined by this repo's tools/merge2.py (LetterG). By the prover of this repo. -/
import Derived.Test.YteebghoijaaakaaGreatM19
import Derived.StillTailTactics
import Derived.Laws.EntriesVeiled
set_option linter.unusedVariables false
set_option linter.unusedSimpArgs false
/- The walks of layer 29, on: the letter of bytes, walked. By the prover of this repo. -/
namespace Go.Proofs.YteebghoijaaakaaGreat
open Go.RowKit
open VaryM SealM

theorem wp_still_tailL {P : Program} {id : Nat} {Q : Exit → Act → World → Prop} {a : Act} {w : World} {l : List Oper} (n : Nat) (hm : P.follows .mixedOrders = true) (hB : Region.lexTailB .any l.toArray n = true)
    (h : ∀ V, V = w.drewN 1 → wpStill P l.toArray V (fun a' => wpList P l.toArray Q (l.drop n) a' V) (l.take n) a) : (Code.region id l.toArray true).wp P Q a w :=
  wp_region_still_tail n hm hB (h _ rfl)
theorem still_of {P : Program} {f : FuncId} {args : Array Value} {w : World} {v : Value} (h : Calls P f args w fun e w' => e = .returned v ∧ w = w') : Calls P f args w fun e w' => e = .returned v ∧ w' = w :=
  h.mono fun _ _ ⟨h1, h2⟩ => ⟨h1, h2.symm⟩

/-- Whether a number's sensors are sensors alone, and have all of a set. -/
def coverF (own co : Int) : Bool := !(decide (co < 281474976710656)) || !withinF own co
/-- The letter of bytes, as letter.Decode goes through them. -/
def decF (all : ByteArray) : Let × Int :=
  let o := openRes all
  let e1 := failF (decide ((o.1.size : Int) < 4)) 9 o.2
  let c := cutP o.1 magic
  let e2 := failF (!c.2) 10 e1
  let n0 := numF e2 c.1
  let n1 := numF n0.2.1 n0.2.2
  let ow := ofF [n1.1]
  let e5 := failF (!ow.2) 10 n1.2.1
  let n2 := numF e5 n1.2.2
  let e7 := failF (coverF ow.1 n2.1) 10 n2.2.1
  let n3 := numF e7 n2.2.2
  let e9 := failF (decide (1048576 < n3.1)) 13 n3.2.1
  let e10 := failF (decide ((n3.2.2.size : Int) < n3.1)) 9 e9
  let e11 := failF (decide (n3.1 < (n3.2.2.size : Int))) 11 e10
  if e11 = 0 then (⟨n0.1, n1.1, n2.1, n3.2.2⟩, 0) else (⟨0, 0, 0, ⟨#[]⟩⟩, e11)

set_option maxRecDepth 100000 in
set_option maxHeartbeats 6000000 in
theorem letter_decode_go (all o c : ByteArray) (W : World) (hs : all.size ≤ 1000000000) (oe e1 e2 e3 e4 e5 e6 e7 e8 e9 e10 e11 a b d n ow : Int) (ok is : Bool) (t0 t1 t2 t3 : ByteArray)
    (ho : Hid (openRes all = (o, oe))) (hos : o.size ≤ all.size) (h1 : Hid (failF (decide ((o.size : Int) < 4)) 9 oe = e1)) (hc : Hid (cutP o magic = (c, ok))) (hcs : c.size ≤ o.size) (h2 : Hid (failF (!ok) 10 e1 = e2))
    (g0 : Hid (numF e2 c = (a, e3, t0))) (s0 : t0.size ≤ c.size) (g1 : Hid (numF e3 t0 = (b, e4, t1))) (s1 : t1.size ≤ t0.size) (hof : Hid (ofF [b] = (ow, is))) (h5 : Hid (failF (!is) 10 e4 = e5))
    (g2 : Hid (numF e5 t1 = (d, e6, t2))) (s2 : t2.size ≤ t1.size) (d0 : 0 ≤ d) (d1 : d < 9223372036854775808) (h7 : Hid (failF (coverF ow d) 10 e6 = e7))
    (g3 : Hid (numF e7 t2 = (n, e8, t3))) (s3 : t3.size ≤ t2.size) (h9 : Hid (failF (decide (1048576 < n)) 13 e8 = e9)) (h10 : Hid (failF (decide ((t3.size : Int) < n)) 9 e9 = e10)) (h11 : Hid (failF (decide (n < (t3.size : Int))) 11 e10 = e11)) :
    Calls Tryz.prog 65 #[.string all] W fun r w' => r = .returned (.tuple #[lv (if e11 = 0 then ⟨a, b, d, t3⟩ else ⟨0, 0, 0, ⟨#[]⟩⟩), .int .i64 e11]) ∧ Below W.heap.size W w' := by
  have hO := fun V => seal_open all V (by unfold maxLen; omega)
  rw [ho.out] at hO
  have hC := fun V => cut_prefix o magic V
  rw [hc.out] at hC
  replace hO := hide hO
  replace hC := hide hC
  go_enter Tryz.func65, Tryz.ntmps65
  go_wp2_with fail
  refine (hO.out _).mono ?_
  rintro r w1 ⟨rfl, hb1⟩
  have R1 := (Blk.made W 119 #[.int .i64 0, .int .i64 0, .int .u64 0, .string ⟨#[]⟩]).kept hb1
  have z1 : W.heap.size < w1.heap.size := R1.lt
  have E1 := (Blk.made w1 37 #[.int .i64 oe]).alloc (.cells #[.func (.func 111) #[] #[.pointer (some ⟨w1.heap.size, 0, none⟩)]] 164)
  replace E1 := hide E1
  go_wp2_with fail
  refine (letter_fail _ _ _ _ _ E1.out).mono ?_
  rintro r w2 ⟨rfl, hw2⟩
  rw [h1.out] at hw2
  have R2 : Blk w2 W.heap.size 119 #[.int .i64 0, .int .i64 0, .int .u64 0, .string ⟨#[]⟩] := by rw [hw2]; exact ((R1.alloc _).alloc _).off (by simp; omega) _
  have E2 : Blk w2 w1.heap.size 37 #[.int .i64 e1] := by rw [hw2]; simpa using E1.out.set 0 (.int .i64 e1)
  have F2 : Blk w2 (w1.heap.size + 1) 164 #[.func (.func 111) #[] #[.pointer (some ⟨w1.heap.size, 0, none⟩)]] := by
    rw [hw2]; exact (Blk.made_at (w1.alloc (.cells #[.int .i64 oe] 37)) _ _ (by simp)).off (by simp) _
  have z2 : w1.heap.size + 1 < w2.heap.size := F2.lt
  have bel2 : Below W.heap.size W w2 := by rw [hw2]; exact ((balloc (balloc (bthen (balloc0 _ _) hb1) _) _)).setCell (by simp; omega) _
  have c2 := F2.cell 0
  simp only [List.getElem?_toArray, List.getElem?_cons_zero] at c2
  clear hw2 R1 E1 hb1
  go_wp2_with fail
  refine (hC.out _).mono ?_
  rintro r w3 ⟨rfl, rfl⟩
  go_wp2_with fail
  refine (letter_fail _ _ _ _ _ (E2.alloc _)).mono ?_
  rintro r w4 ⟨rfl, hw4⟩
  rw [h2.out] at hw4
  have R4 : Blk w4 W.heap.size 119 #[.int .i64 0, .int .i64 0, .int .u64 0, .string ⟨#[]⟩] := by rw [hw4]; exact (R2.alloc _).off (by simp; omega) _
  have E4 : Blk w4 w1.heap.size 37 #[.int .i64 e2] := by rw [hw4]; simpa using (E2.alloc (.cells #[.string c] 9)).set 0 (.int .i64 e2)
  have F4 : Blk w4 (w1.heap.size + 1) 164 #[.func (.func 111) #[] #[.pointer (some ⟨w1.heap.size, 0, none⟩)]] := by rw [hw4]; exact (F2.alloc _).off (by simp) _
  have L4 : Blk w4 w2.heap.size 9 #[.string c] := by rw [hw4]; exact (Blk.made _ _ _).off (by simp; omega) _
  have z4 : w2.heap.size < w4.heap.size := L4.lt
  have bel4 : Below W.heap.size W w4 := by rw [hw4]; exact (balloc bel2 _).setCell (by simp; omega) _
  clear hw4 R2 E2 F2 c2 bel2
  have D5 : Dst W (w4.alloc (.cells #[.int .i64 0, .int .i64 0, .int .u64 0, .string ⟨#[]⟩] 119)) W.heap.size w1.heap.size (w1.heap.size + 1) w2.heap.size w4.heap.size e2 c 0 0 0 ⟨#[]⟩ :=
    ⟨balloc bel4 _, R4.alloc _, E4.alloc _, F4.alloc _, L4.alloc _, Blk.made _ _ _, Nat.le_refl _, z1, by omega, z2, z4, by omega⟩
  obtain ⟨n1, n2, n3, n4, n5, n6, n7, n8, n9⟩ := D5.ne
  clear R4 E4 F4 L4 bel4
  go_wp2_with fail
  refine (D5.num a e3 t0 g0.out s0).mono ?_
  rintro r w6 ⟨rfl, D6⟩
  clear D5 n9
  obtain ⟨f1, f2, f3, f4, f5, f6, f7, f8⟩ := D6.facts
  go_wp2_with fail
  refine ((D6.set0 a).num b e4 t1 g1.out s1).mono ?_
  rintro r w7 ⟨rfl, D7⟩
  clear D6 f1 f2 f3 f4 f5 f6 f7 f8
  obtain ⟨f1, f2, f3, f4, f5, f6, f7, f8⟩ := D7.facts
  have hOf := crew_of (some ⟨w7.heap.size, 0, none⟩) 1 1 [b] ((w7.setCell ⟨w4.heap.size, 1, none⟩ (.int .i64 b)).alloc (.cells #[.int .i64 b] 3)) rfl
    (Rd.of_blk (Blk.made_at _ _ _ (by simp)) 0 (by simp) (by intro i hi; have h0 : i = 0 := (by omega); subst h0; simp)) (by omega)
  rw [hof.out] at hOf
  replace hOf := hide hOf
  obtain ⟨k1, k2, k3, k4, k5, k6, k7, k8⟩ := ((D7.set1 b).alloc (.cells #[.int .i64 b] 3)).facts
  go_wp2_with fail
  refine hOf.out.mono ?_
  rintro r w8 ⟨rfl, rfl⟩
  go_wp2_with fail
  refine (((D7.set1 b).alloc _).fail _ _ e5 h5.out).mono ?_
  rintro r w9 ⟨rfl, D9⟩
  clear D7 f1 f2 f3 f4 f5 f6 f7 f8 hOf k1 k2 k3 k4 k5 k6 k7 k8
  obtain ⟨f1, f2, f3, f4, f5, f6, f7, f8⟩ := D9.facts
  go_wp2_with fail
  refine (D9.num d e6 t2 g2.out s2).mono ?_
  rintro r w10 ⟨rfl, D10⟩
  clear D9 f1 f2 f3 f4 f5 f6 f7 f8
  obtain ⟨f1, f2, f3, f4, f5, f6, f7, f8⟩ := D10.facts
  have hRi := fun V => still_of (crew_right d V)
  have hWi := fun V => still_of (crew_within ow d V)
  have h7' : failF (!(decide (d < 281474976710656)) || !withinF ow d) 10 e6 = e7 := h7.out
  generalize decide (d < 281474976710656) = B at hRi h7'
  generalize withinF ow d = I at hWi h7'
  replace hRi := hide hRi
  replace hWi := hide hWi
  replace h7' := hide h7'
  go_wp2_with fail
  refine wp_still_tailL 12 (by kernel_rfl) (by kernel_rfl) ?_
  intro V hV
  have D11 : Dst W V W.heap.size w1.heap.size (w1.heap.size + 1) w2.heap.size w4.heap.size e6 t2 a b d ⟨#[]⟩ := by rw [hV]; exact (D10.set2 d).drew 1
  clear D10 f1 f2 f3 f4 f5 f6 f7 f8 hV
  obtain ⟨f1, f2, f3, f4, f5, f6, f7, f8⟩ := D11.facts
  simp only [List.take_succ_cons, List.take_zero, List.drop_succ_cons, List.drop_zero]
  cases B
  all_goals
    repeat (first | still_step | still_call (hRi.out _) | still_call (hWi.out _))
    refine wpStill_nil ?_
    go_wp2_with fail
    refine (D11.fail _ _ e7 h7'.out).mono ?_
    rintro r w12 ⟨rfl, D12⟩
    clear D11 f1 f2 f3 f4 f5 f6 f7 f8
    obtain ⟨f1, f2, f3, f4, f5, f6, f7, f8⟩ := D12.facts
    go_wp2_with fail
    refine (D12.num n e8 t3 g3.out s3).mono ?_
    rintro r w13 ⟨rfl, D13⟩
    clear D12 f1 f2 f3 f4 f5 f6 f7 f8
    obtain ⟨f1, f2, f3, f4, f5, f6, f7, f8⟩ := D13.facts
    go_wp2_with fail
    refine (D13.fail _ _ e9 h9.out).mono ?_
    rintro r w14 ⟨rfl, D14⟩
    clear D13 f1 f2 f3 f4 f5 f6 f7 f8
    obtain ⟨f1, f2, f3, f4, f5, f6, f7, f8⟩ := D14.facts
    go_wp2_with fail
    refine (D14.fail _ _ e10 h10.out).mono ?_
    rintro r w15 ⟨rfl, D15⟩
    clear D14 f1 f2 f3 f4 f5 f6 f7 f8
    obtain ⟨f1, f2, f3, f4, f5, f6, f7, f8⟩ := D15.facts
    go_wp2_with fail
    refine (D15.fail _ _ e11 h11.out).mono ?_
    rintro r w16 ⟨rfl, D16⟩
    clear D15 f1 f2 f3 f4 f5 f6 f7 f8
    obtain ⟨f1, f2, f3, f4, f5, f6, f7, f8⟩ := D16.facts
    obtain ⟨q1, q2, q3, q4, q5⟩ := D16.res
    by_cases he : e11 = 0
    · have he2 : (e11 != 0) = false := by simpa using he
      have hres : Hid ((if e11 = 0 then (⟨a, b, d, t3⟩ : Let) else ⟨0, 0, 0, ⟨#[]⟩⟩) = ⟨a, b, d, t3⟩) := if_pos he
      replace he := hide he
      go_wp2_with fail
      refine bodyPost_ret (v := .tuple #[lv ⟨a, b, d, t3⟩, .int .i64 0]) ?_ rfl ⟨rfl, ?_⟩
      · obtain ⟨p1, p2, p3, p4, p5⟩ := (D16.set3 t3).res
        simp [results, Tryz.results65, go_sem, lv, p1, p2, p3, p4]
      · exact ((((D16.bel.setCell (by simp; omega) _).setCell (by simp) _).setCell (by simp) _).setCell (by simp) _).setCell (by simp) _
    · have he2 : (e11 != 0) = true := by simpa using he
      have hres : Hid ((if e11 = 0 then (⟨a, b, d, t3⟩ : Let) else ⟨0, 0, 0, ⟨#[]⟩⟩) = ⟨0, 0, 0, ⟨#[]⟩⟩) := if_neg he
      replace he := hide he
      go_wp2_with fail
      go_region
      all_goals
        go_wp2_with fail
        refine bodyPost_ret (v := .tuple #[lv ⟨0, 0, 0, ⟨#[]⟩⟩, .int .i64 e11]) ?_ rfl ⟨rfl, ?_⟩
        · simp [results, Tryz.results65, go_sem, lv, q1, q2, q3, q4]
        · exact (((((D16.bel.setCell (by simp) _).setCell (by simp) _).setCell (by simp) _).setCell (by simp) _).drew)
end Go.Proofs.YteebghoijaaakaaGreat

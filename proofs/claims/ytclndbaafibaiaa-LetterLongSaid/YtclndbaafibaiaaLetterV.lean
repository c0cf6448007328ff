/- The law LetterLong, walked. By the prover of this repo. -/
import Derived.Test.YtclndbaafibaiaaLetterT
import Derived.Laws.MakeOwn
namespace Go.Proofs.Ytclndbaafibaiaa
open Go.RowKit
open VaryM SealM

/-- As many noughts. -/
def noughts (m : Nat) : ByteArray := ⟨(List.replicate m (0 : UInt8)).toArray⟩
theorem noughts_size (m : Nat) : (noughts m).size = m := by show (List.replicate m (0 : UInt8)).toArray.size = m; simp
theorem make_bytes (n : Int) (h0 : 0 ≤ n) (h1 : n ≤ 2097151) (V : World) : (Instr.makeSlice 41 (.int .u32 n) (.int .u32 n)).run Try.prog V = .ok (.slice (some ⟨V.heap.size, 0, none⟩) n.toNat n.toNat) (V.alloc (.cells (madeCells #[.int .u8 0] n.toNat) 5)) := by
  obtain ⟨i, hi, hz, hs, hb⟩ := info_parts (show (Try.prog.info? 5).map (fun i => (i.zero, i.size, i.bytes)) = some (some (.int .u8 0), 1, 1) by kernel_rfl)
  have h := run_make (P := Try.prog) V 41 5 i (.int .u8 0) Try.underlying41 hi hz .u32 .u32 n n h0 (Int.le_refl _) (by rw [hb]; omega) (by omega)
  rw [hs, Nat.mul_one] at h
  exact h
theorem made_at (m j : Nat) (h : j < m) : (madeCells #[.int .u8 0] m)[j]? = some (.int .u8 0) := by
  unfold madeCells
  simp [h, Nat.mod_one]
theorem made_text (m : Nat) (V : World) (o : Obj) (g : Nat) (hg : g = V.heap.size) : (convert 41 9 (.slice (some ⟨g, 0, none⟩) m m)).run Try.prog (V.alloc (.cells (madeCells #[.int .u8 0] m) 5)) = .ok (.string (noughts m)) (V.alloc (.cells (madeCells #[.int .u8 0] m) 5)) := by
  subst hg
  have hB := Blk.made V 5 (madeCells #[.int .u8 0] m)
  have hl : (List.replicate m (0 : UInt8)).length = m := by simp
  have := run_convert_bytes_back (P := Try.prog) (V.alloc (.cells (madeCells #[.int .u8 0] m) 5)) 41 9 5 ⟨V.heap.size, 0, none⟩ m (List.replicate m (0 : UInt8)) Try.underlying41 Try.underlying5 Try.underlying9 (fun j hj => by
    have hadd : (⟨V.heap.size, 0, none⟩ : Addr).add j = ⟨V.heap.size, j, none⟩ := by unfold Addr.add; split <;> simp_all
    rw [hadd, hB.cell j, made_at m j (by simpa using hj)]
    simp)
  rw [hl] at this
  exact this

set_option maxRecDepth 100000 in
set_option maxHeartbeats 1000000 in
theorem letterLong_walk (n : Int) (x : Let) (w : World) (hn : 0 ≤ n ∧ n ≤ 4294967295) (h : x.Wf) : Calls Try.prog 14 #[.int .u32 n, lv x] w fun e w' => e = .returned (.bool true) ∧ Below w.heap.size w w' := by
  obtain ⟨ep, fr, co, bo⟩ := x
  obtain ⟨hn0, hn1⟩ := hn
  have hmk := fun V => make_bytes (n % 2097152) (by omega) (by omega) V
  have htx := made_text (n % 2097152).toNat (w.alloc (.cells #[.int .i64 ep, .int .i64 fr, .int .u64 co, .string bo] 68)) (.cells #[] 0) (w.heap.size + 1) (by simp)
  have hsz := noughts_size (n % 2097152).toNat
  have hwf : (⟨ep, fr, co, noughts (n % 2097152).toNat⟩ : Let).Wf := by
    obtain ⟨a1, a2, a3, a4, a5, a6, a7⟩ := h
    exact ⟨a1, a2, a3, a4, a5, a6, by simp only; rw [hsz]; omega⟩
  clear h
  have hsz2 : ((noughts (n % 2097152).toNat).size : Int) ≤ 2097151 := by rw [hsz]; omega
  clear hsz
  generalize hB : noughts (n % 2097152).toNat = B at *
  clear hB
  have hE := fun W => letter_encode ⟨ep, fr, co, B⟩ hwf W
  have hM := hide (fun W => law29_made ⟨ep, fr, co, B⟩ W)
  have hR := fun W => ref29_right ⟨ep, fr, co, B⟩ hwf W
  cases hr : rightF ⟨ep, fr, co, B⟩
  · have hen : encodeF ⟨ep, fr, co, B⟩ = (⟨#[]⟩, 2) := if_neg (by rw [hr]; simp)
    rw [hen] at hE
    rw [hr] at hR
    replace hE := hide hE
    replace hR := hide hR
    clear hen hr hwf
    go_enter Try.func14, Try.ntmps14
    go_wp2_with fail
    refine (hE.out _).mono ?_
    rintro e w2 ⟨rfl, hb2⟩
    have B2 : Below w.heap.size w w2 := bthen (balloc (balloc0 w (.cells #[.int .i64 ep, .int .i64 fr, .int .u64 co, .string B] 68)) _) hb2
    have X2 := ((Blk.made w 68 #[.int .i64 ep, .int .i64 fr, .int .u64 co, .string B]).alloc (.cells (madeCells #[.int .u8 0] (n % 2097152).toNat) 5)).kept hb2
    obtain ⟨c0, c1, c2, c3⟩ : w2.cell? ⟨w.heap.size, 0, none⟩ = some (.int .i64 ep) ∧ w2.cell? ⟨w.heap.size, 1, none⟩ = some (.int .i64 fr) ∧ w2.cell? ⟨w.heap.size, 2, none⟩ = some (.int .u64 co) ∧ w2.cell? ⟨w.heap.size, 3, none⟩ = some (.string B) := ⟨X2.cell 0, X2.cell 1, X2.cell 2, X2.cell 3⟩
    have l2 := X2.lt
    clear hb2
    go_wp2_with fail
    refine (hM.out _).mono ?_
    rintro e w3 ⟨rfl, hb3⟩
    go_wp2_with fail
    refine (hR.out _).mono ?_
    rintro e w4 ⟨rfl, hb4⟩
    have B4 := bthen (bthen B2 hb3) hb4
    clear c0 c1 c2 c3 l2
    have X4 := (X2.kept hb3).kept hb4
    obtain ⟨c0, c1, c2, c3⟩ : w4.cell? ⟨w.heap.size, 0, none⟩ = some (.int .i64 ep) ∧ w4.cell? ⟨w.heap.size, 1, none⟩ = some (.int .i64 fr) ∧ w4.cell? ⟨w.heap.size, 2, none⟩ = some (.int .u64 co) ∧ w4.cell? ⟨w.heap.size, 3, none⟩ = some (.string B) := ⟨X4.cell 0, X4.cell 1, X4.cell 2, X4.cell 3⟩
    have l4 := X4.lt
    clear X2 B2 hb3 hb4
    go_wp2_with fail
    refine (alive29 _).mono ?_
    rintro e w5 ⟨rfl, hb5⟩
    go_wp2_with fail
    go_ret
    exact ⟨rfl, bthen B4 hb5⟩
  · have hen : encodeF ⟨ep, fr, co, B⟩ = (sealed (plainF ⟨ep, fr, co, B⟩), 0) := if_pos hr
    have hz : (sealed (plainF ⟨ep, fr, co, B⟩)).size ≤ 28 + B.size := encode_size ⟨ep, fr, co, B⟩ hwf hr
    have hdb := dec_enc ⟨ep, fr, co, B⟩ hwf hr
    have hB1 : (B.size : Int) ≤ 1048576 := by have := (right_parts hr).2.2.2.2; simp only at this; omega
    rw [hen] at hE
    rw [hr] at hR
    generalize sealed (plainF ⟨ep, fr, co, B⟩) = S at *
    have hDs := fun W => letter_read S W (by omega)
    rw [hdb] at hDs
    replace hE := hide hE
    replace hR := hide hR
    replace hDs := hide hDs
    clear hen hr hwf hdb hz
    go_enter Try.func14, Try.ntmps14
    go_wp2_with fail
    refine (hE.out _).mono ?_
    rintro e w2 ⟨rfl, hb2⟩
    have B2 : Below w.heap.size w w2 := bthen (balloc (balloc0 w (.cells #[.int .i64 ep, .int .i64 fr, .int .u64 co, .string B] 68)) _) hb2
    have X2 := ((Blk.made w 68 #[.int .i64 ep, .int .i64 fr, .int .u64 co, .string B]).alloc (.cells (madeCells #[.int .u8 0] (n % 2097152).toNat) 5)).kept hb2
    obtain ⟨c0, c1, c2, c3⟩ : w2.cell? ⟨w.heap.size, 0, none⟩ = some (.int .i64 ep) ∧ w2.cell? ⟨w.heap.size, 1, none⟩ = some (.int .i64 fr) ∧ w2.cell? ⟨w.heap.size, 2, none⟩ = some (.int .u64 co) ∧ w2.cell? ⟨w.heap.size, 3, none⟩ = some (.string B) := ⟨X2.cell 0, X2.cell 1, X2.cell 2, X2.cell 3⟩
    have l2 := X2.lt
    clear hb2
    go_wp2_with fail
    refine (hM.out _).mono ?_
    rintro e w3 ⟨rfl, hb3⟩
    go_wp2_with fail
    refine (hR.out _).mono ?_
    rintro e w4 ⟨rfl, hb4⟩
    have B4 := bthen (bthen B2 hb3) hb4
    clear c0 c1 c2 c3 l2
    have X4 := (X2.kept hb3).kept hb4
    obtain ⟨c0, c1, c2, c3⟩ : w4.cell? ⟨w.heap.size, 0, none⟩ = some (.int .i64 ep) ∧ w4.cell? ⟨w.heap.size, 1, none⟩ = some (.int .i64 fr) ∧ w4.cell? ⟨w.heap.size, 2, none⟩ = some (.int .u64 co) ∧ w4.cell? ⟨w.heap.size, 3, none⟩ = some (.string B) := ⟨X4.cell 0, X4.cell 1, X4.cell 2, X4.cell 3⟩
    have l4 := X4.lt
    clear X2 B2 hb3 hb4
    go_wp2_with fail
    refine (hDs.out _).mono ?_
    rintro e w5 ⟨rfl, hb5⟩
    have B5 := bthen B4 hb5
    clear c0 c1 c2 c3 l4
    have X5 := X4.kept hb5
    obtain ⟨c0, c1, c2, c3⟩ : w5.cell? ⟨w.heap.size, 0, none⟩ = some (.int .i64 ep) ∧ w5.cell? ⟨w.heap.size, 1, none⟩ = some (.int .i64 fr) ∧ w5.cell? ⟨w.heap.size, 2, none⟩ = some (.int .u64 co) ∧ w5.cell? ⟨w.heap.size, 3, none⟩ = some (.string B) := ⟨X5.cell 0, X5.cell 1, X5.cell 2, X5.cell 3⟩
    have l5 := X5.lt
    clear X4 B4 hb5
    go_wp2_with fail
    refine (alive29 _).mono ?_
    rintro e w6 ⟨rfl, hb6⟩
    go_wp2_with fail
    go_ret
    exact ⟨rfl, bthen (balloc B5 _) hb6⟩
end Go.Proofs.Ytclndbaafibaiaa

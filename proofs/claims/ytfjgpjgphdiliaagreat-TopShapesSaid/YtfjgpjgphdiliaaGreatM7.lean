/- Part 7 of the proof: texts joined by this repo's tools/merge.py (Shelf TwigW TwigR TwigR2 TwigW2 RollW). By the prover of this repo. -/
import Derived.Shelf.Strings.Builder1
import Derived.Shelf.Small.Bits
import Derived.Shelf.Small.Wraps
import Derived.Shelf.Strconv.Itoa0
import Derived.Shelf.Bits.Mul64
import Derived.Test.YtfjgpjgphdiliaaGreatProg
import Derived.Test.YtfjgpjgphdiliaaGreatM6
import Derived.Test.YtfjgpjgphdiliaaGreatM1
import Derived.Test.YtfjgpjgphdiliaaGreatM2
import Derived.Laws.StructEq
set_option linter.unusedVariables false
set_option linter.unusedSimpArgs false
/-
  DERIVED: THE SHELF's CONTRACTS AT THIS DUMP, IN PLAIN WORDS (tools/lay-plain.mjs out of 'TryzShelf.lean', which tools/lay-shelf.mjs wrote): THE SAME DECLARATIONS UNDER THE SAME NAMES: 'import', 'namespace', 'open', 'def', 'theorem' AND NOTHING ELSE: no command of the shelf's: FOR A HAND-IN. Each laying: the table of numbers ('.._ren') and one theorem, a field a fact of the dump's own or the kernel's comparison; each contract: ONE APPLICATION.
-/
namespace Go.Proofs
open Go.Shelf
def Tryz.lays169_ren : Go.Shelf.Ren := ⟨fun | 169 => 51 | n => n, fun | 70 => 81 | 9 => 9 | 0 => 0 | 72 => 83 | 37 => 80 | 127 => 119 | 3 => 3 | 5 => 5 | n => n, fun | n => n⟩
theorem Tryz.lays169 : Go.Proofs.Lays.n169 Tryz.prog Tryz.lays169_ren := {
  mixed := by kernel_rfl
  f169 := Tryz.func51.trans (congrArg some (by kernel_rfl))
  t0 := Tryz.underlying0
  a0 := Tryz.isAgg0
  z0 := Tryz.sizeOf0
  v0 := Tryz.zeroValue0
  t3 := Tryz.underlying3
  a3 := Tryz.isAgg3
  z3 := Tryz.sizeOf3
  v3 := Tryz.zeroValue3
  t9 := Tryz.underlying9
  a9 := Tryz.isAgg9
  z9 := Tryz.sizeOf9
  v9 := Tryz.zeroValue9
  t37 := Tryz.underlying80
  a37 := Tryz.isAgg80
  z37 := Tryz.sizeOf80
  v37 := Tryz.zeroValue80
  t70 := Tryz.underlying81
  a70 := Tryz.isAgg81
  z70 := Tryz.sizeOf81
  v70 := Tryz.zeroValue81
  t72 := Tryz.underlying83
  a72 := Tryz.isAgg83
  z72 := Tryz.sizeOf83
  v72 := Tryz.zeroValue83
  t127 := Tryz.underlying119
  a127 := Tryz.isAgg119
  z127 := Tryz.sizeOf119
  v127 := Tryz.zeroValue119 }
theorem Tryz.Builder_Extra_169 : Builder.Extra Tryz.prog Tryz.lays169_ren := {
  sizeBuilder := by kernel_rfl
  liesBuilder := by kernel_rfl
  t5 := Tryz.underlying5
  a5 := Tryz.isAgg5
  z5 := Tryz.sizeOf5
  v5 := Tryz.zeroValue5
  infoByte := by kernel_rfl
  cellsByte := by kernel_rfl
  sizeByte := by kernel_rfl
  neB5 := by decide }
open Go.RowKit in
/-- (*strings.Builder).String: "String returns the accumulated string.": OF A BUILDER THAT HOLDS AT LEAST ONE BYTE. ✋ THE MODEL FREEZES THOSE BYTES IN THE BUFFER (unsafe.String): a later write INTO them ends the model's run without an answer; a later append BEHIND them goes on. The statement's order of evaluation is drawn: one draw. (LAID: no walk: one application.) -/
theorem Tryz.Builder_String (B b : Nat) (l : List UInt8) (w : World) (h : Lib.IsBuilder 83 5 B b (Lib.byteCells l) w) (h0 : l ≠ []) :
    Calls Tryz.prog 51 #[.pointer (some ⟨b, 0, none⟩)] w fun e w' => e = .returned (.string ⟨l.toArray⟩) ∧ Below B w w' := Any.Builder_String Tryz.lays169 Tryz.Builder_Extra_169 B b l w h h0
open Go.RowKit in
/-- (*strings.Builder).String OF A BUILDER THAT HOLDS NO BYTE: the empty string. (Its buffer is nil, or a row of which it has taken nothing yet; where that row has NO capacity the model lays one new block for unsafe.SliceData's 'some address'.) One draw. (LAID: no walk: one application.) -/
theorem Tryz.Builder_String_empty (B b : Nat) (w : World) (h : Lib.IsBuilder 83 5 B b [] w) (hBw : B ≤ w.heap.size) :
    Calls Tryz.prog 51 #[.pointer (some ⟨b, 0, none⟩)] w fun e w' => e = .returned (.string ⟨#[]⟩) ∧ Below B w w' := Any.Builder_String_empty Tryz.lays169 Tryz.Builder_Extra_169 B b w h hBw
open Go.RowKit in
/-- (*strings.Builder).String: "String returns the accumulated string.": WHATEVER THE BUILDER HOLDS. (LAID: no walk: one application.) -/
theorem Tryz.Builder_String_any (B b : Nat) (l : List UInt8) (w : World) (h : Lib.IsBuilder 83 5 B b (Lib.byteCells l) w) (hBw : B ≤ w.heap.size) :
    Calls Tryz.prog 51 #[.pointer (some ⟨b, 0, none⟩)] w fun e w' => e = .returned (.string ⟨l.toArray⟩) ∧ Below B w w' := Any.Builder_String_any Tryz.lays169 Tryz.Builder_Extra_169 B b l w h hBw
def Tryz.lays128_ren : Go.Shelf.Ren := ⟨fun | 128 => 155 | n => n, fun | 51 => 187 | 3 => 3 | 4 => 4 | 46 => 135 | 5 => 5 | 9 => 9 | n => n, fun | n => n⟩
theorem Tryz.lays128 : Go.Proofs.Lays.n128 Tryz.prog Tryz.lays128_ren := {
  mixed := by kernel_rfl
  f128 := Tryz.func155.trans (congrArg some (by kernel_rfl))
  t3 := Tryz.underlying3
  a3 := Tryz.isAgg3
  z3 := Tryz.sizeOf3
  v3 := Tryz.zeroValue3
  t4 := Tryz.underlying4
  a4 := Tryz.isAgg4
  z4 := Tryz.sizeOf4
  v4 := Tryz.zeroValue4
  t5 := Tryz.underlying5
  a5 := Tryz.isAgg5
  z5 := Tryz.sizeOf5
  v5 := Tryz.zeroValue5
  t9 := Tryz.underlying9
  a9 := Tryz.isAgg9
  z9 := Tryz.sizeOf9
  v9 := Tryz.zeroValue9
  t46 := Tryz.underlying135
  a46 := Tryz.isAgg135
  z46 := Tryz.sizeOf135
  v46 := Tryz.zeroValue135
  t51 := Tryz.underlying187
  a51 := Tryz.isAgg187
  z51 := Tryz.sizeOf187
  v51 := Tryz.zeroValue187 }
/-- bits.Len32: "Len32 returns the minimum number of bits required to represent x; the result is 0 for x == 0.": IT RETURNS 'Lib.bitLen x'; the world is as it was. ('h0', 'h1': x is a uint32.) (LAID: no walk: one application.) -/
theorem Tryz.bits_Len32 (x : Int) (w : World) (h0 : 0 ≤ x) (h1 : x ≤ 4294967295) :
    Calls Tryz.prog 155 #[.int .u32 x] w fun e w' => e = .returned (.int .i64 (Lib.bitLen x.toNat)) ∧ w' = w := Any.bits_Len32 Tryz.lays128 x w h0 h1
def Tryz.lays125_ren : Go.Shelf.Ren := ⟨fun | 125 => 144 | 128 => 155 | 129 => 127 | n => n, fun | 46 => 135 | 3 => 3 | 51 => 187 | 53 => 159 | 4 => 4 | 5 => 5 | 9 => 9 | n => n, fun | n => n⟩
theorem Tryz.lays125 : Go.Proofs.Lays.n125 Tryz.prog Tryz.lays125_ren := {
  mixed := by kernel_rfl
  f125 := Tryz.func144.trans (congrArg some (by kernel_rfl))
  f128 := Tryz.func155.trans (congrArg some (by kernel_rfl))
  f129 := Tryz.func127.trans (congrArg some (by kernel_rfl))
  t3 := Tryz.underlying3
  a3 := Tryz.isAgg3
  z3 := Tryz.sizeOf3
  v3 := Tryz.zeroValue3
  t4 := Tryz.underlying4
  a4 := Tryz.isAgg4
  z4 := Tryz.sizeOf4
  v4 := Tryz.zeroValue4
  t5 := Tryz.underlying5
  a5 := Tryz.isAgg5
  z5 := Tryz.sizeOf5
  v5 := Tryz.zeroValue5
  t9 := Tryz.underlying9
  a9 := Tryz.isAgg9
  z9 := Tryz.sizeOf9
  v9 := Tryz.zeroValue9
  t46 := Tryz.underlying135
  a46 := Tryz.isAgg135
  z46 := Tryz.sizeOf135
  v46 := Tryz.zeroValue135
  t51 := Tryz.underlying187
  a51 := Tryz.isAgg187
  z51 := Tryz.sizeOf187
  v51 := Tryz.zeroValue187
  t53 := Tryz.underlying159
  a53 := Tryz.isAgg159
  z53 := Tryz.sizeOf159
  v53 := Tryz.zeroValue159 }
/-- bits.Len: "Len returns the minimum number of bits required to represent x; the result is 0 for x == 0.": IT RETURNS 'Lib.bitLen x'; the world is as it was. (A uint has 64 bits in the model.) ITS CALLEE bits.Len64 IS MET BY ITS OWN CONTRACT OFF THE SHELF (lay that first). (LAID: no walk: one application.) -/
theorem Tryz.bits_Len (x : Int) (w : World) (h0 : 0 ≤ x) (h1 : x ≤ 18446744073709551615) :
    Calls Tryz.prog 144 #[.int .u64 x] w fun e w' => e = .returned (.int .i64 (Lib.bitLen x.toNat)) ∧ w' = w := Any.bits_Len Tryz.lays125 x w h0 h1
def Tryz.lays134_ren : Go.Shelf.Ren := ⟨fun | 134 => 146 | 129 => 127 | n => n, fun | 53 => 159 | 3 => 3 | 4 => 4 | 46 => 135 | 5 => 5 | 9 => 9 | n => n, fun | n => n⟩
theorem Tryz.lays134 : Go.Proofs.Lays.n134 Tryz.prog Tryz.lays134_ren := {
  mixed := by kernel_rfl
  f129 := Tryz.func127.trans (congrArg some (by kernel_rfl))
  f134 := Tryz.func146.trans (congrArg some (by kernel_rfl))
  t3 := Tryz.underlying3
  a3 := Tryz.isAgg3
  z3 := Tryz.sizeOf3
  v3 := Tryz.zeroValue3
  t4 := Tryz.underlying4
  a4 := Tryz.isAgg4
  z4 := Tryz.sizeOf4
  v4 := Tryz.zeroValue4
  t5 := Tryz.underlying5
  a5 := Tryz.isAgg5
  z5 := Tryz.sizeOf5
  v5 := Tryz.zeroValue5
  t9 := Tryz.underlying9
  a9 := Tryz.isAgg9
  z9 := Tryz.sizeOf9
  v9 := Tryz.zeroValue9
  t46 := Tryz.underlying135
  a46 := Tryz.isAgg135
  z46 := Tryz.sizeOf135
  v46 := Tryz.zeroValue135
  t53 := Tryz.underlying159
  a53 := Tryz.isAgg159
  z53 := Tryz.sizeOf159
  v53 := Tryz.zeroValue159 }
/-- bits.LeadingZeros64: "LeadingZeros64 returns the number of leading zero bits in x; the result is 64 for x == 0.": IT RETURNS '64 - Lib.bitLen x'; the world is as it was. ITS CALLEE bits.Len64 IS MET BY ITS OWN CONTRACT OFF THE SHELF (lay that first): entered in place it sends the kernel out of memory. (LAID: no walk: one application.) -/
theorem Tryz.bits_LeadingZeros64 (x : Int) (w : World) (h0 : 0 ≤ x) (h1 : x ≤ 18446744073709551615) :
    Calls Tryz.prog 146 #[.int .u64 x] w fun e w' => e = .returned (.int .i64 (64 - (Lib.bitLen x.toNat : Int))) ∧ w' = w := Any.bits_LeadingZeros64 Tryz.lays134 x w h0 h1
def Tryz.lays215_ren : Go.Shelf.Ren := ⟨fun | 215 => 145 | n => n, fun | 3 => 3 | 4 => 4 | n => n, fun | n => n⟩
theorem Tryz.lays215 : Go.Proofs.Lays.n215 Tryz.prog Tryz.lays215_ren := {
  mixed := by kernel_rfl
  f215 := Tryz.func145.trans (congrArg some (by kernel_rfl))
  t3 := Tryz.underlying3
  a3 := Tryz.isAgg3
  z3 := Tryz.sizeOf3
  v3 := Tryz.zeroValue3
  t4 := Tryz.underlying4
  a4 := Tryz.isAgg4
  z4 := Tryz.sizeOf4
  v4 := Tryz.zeroValue4 }
open Go.RowKit in
/-- cmp.isNaN at int: 'x != x': false. (LAID: no walk: one application.) -/
theorem Tryz.cmp_isNaN_int (x : Int) (w : World) :
    Calls Tryz.prog 145 #[.int .i64 x] w fun e w' => e = .returned (.bool false) ∧ w' = w := Any.cmp_isNaN_int Tryz.lays215 x w
def Tryz.lays122_ren : Go.Shelf.Ren := ⟨fun | 122 => 133 | 215 => 145 | n => n, fun | 3 => 3 | 4 => 4 | n => n, fun | n => n⟩
theorem Tryz.lays122 : Go.Proofs.Lays.n122 Tryz.prog Tryz.lays122_ren := {
  mixed := by kernel_rfl
  f122 := Tryz.func133.trans (congrArg some (by kernel_rfl))
  f215 := Tryz.func145.trans (congrArg some (by kernel_rfl))
  t3 := Tryz.underlying3
  a3 := Tryz.isAgg3
  z3 := Tryz.sizeOf3
  v3 := Tryz.zeroValue3
  t4 := Tryz.underlying4
  a4 := Tryz.isAgg4
  z4 := Tryz.sizeOf4
  v4 := Tryz.zeroValue4 }
open Go.RowKit in
/-- cmp.Compare at int: "Compare returns -1 if x is less than y, 0 if x equals y, +1 if x is greater than y.": IT RETURNS 'Lib.compareInt x y'; the world is as it was. (LAID: no walk: one application.) -/
theorem Tryz.cmp_Compare_int (x y : Int) (w : World) :
    Calls Tryz.prog 133 #[.int .i64 x, .int .i64 y] w fun e w' => e = .returned (.int .i64 (Lib.compareInt x y)) ∧ w' = w := Any.cmp_Compare_int Tryz.lays122 x y w
def Tryz.lays129_ren : Go.Shelf.Ren := ⟨fun | 129 => 127 | n => n, fun | 53 => 159 | 3 => 3 | 4 => 4 | 46 => 135 | 5 => 5 | 9 => 9 | n => n, fun | n => n⟩
theorem Tryz.lays129 : Go.Proofs.Lays.n129 Tryz.prog Tryz.lays129_ren := {
  mixed := by kernel_rfl
  f129 := Tryz.func127.trans (congrArg some (by kernel_rfl))
  t3 := Tryz.underlying3
  a3 := Tryz.isAgg3
  z3 := Tryz.sizeOf3
  v3 := Tryz.zeroValue3
  t4 := Tryz.underlying4
  a4 := Tryz.isAgg4
  z4 := Tryz.sizeOf4
  v4 := Tryz.zeroValue4
  t5 := Tryz.underlying5
  a5 := Tryz.isAgg5
  z5 := Tryz.sizeOf5
  v5 := Tryz.zeroValue5
  t9 := Tryz.underlying9
  a9 := Tryz.isAgg9
  z9 := Tryz.sizeOf9
  v9 := Tryz.zeroValue9
  t46 := Tryz.underlying135
  a46 := Tryz.isAgg135
  z46 := Tryz.sizeOf135
  v46 := Tryz.zeroValue135
  t53 := Tryz.underlying159
  a53 := Tryz.isAgg159
  z53 := Tryz.sizeOf159
  v53 := Tryz.zeroValue159 }
/-- bits.Len64: "Len64 returns the minimum number of bits required to represent x; the result is 0 for x == 0.": IT RETURNS 'Lib.bitLen x'; the world is as it was. ('h0', 'h1': x is a uint64.) (LAID: no walk: one application.) -/
theorem Tryz.bits_Len64 (x : Int) (w : World) (h0 : 0 ≤ x) (h1 : x ≤ 18446744073709551615) :
    Calls Tryz.prog 127 #[.int .u64 x] w fun e w' => e = .returned (.int .i64 (Lib.bitLen x.toNat)) ∧ w' = w := Any.bits_Len64 Tryz.lays129 x w h0 h1
def Tryz.lays264_ren : Go.Shelf.Ren := ⟨fun | 264 => 141 | n => n, fun | 53 => 159 | 46 => 135 | n => n, fun | n => n⟩
theorem Tryz.lays264 : Go.Proofs.Lays.n264 Tryz.prog Tryz.lays264_ren := {
  mixed := by kernel_rfl
  f264 := Tryz.func141.trans (congrArg some (by kernel_rfl))
  t46 := Tryz.underlying135
  a46 := Tryz.isAgg135
  z46 := Tryz.sizeOf135
  v46 := Tryz.zeroValue135
  t53 := Tryz.underlying159
  a53 := Tryz.isAgg159
  z53 := Tryz.sizeOf159
  v53 := Tryz.zeroValue159 }
open Go.RowKit Go.Lib in
theorem Tryz.bits_Mul64 (x y : Nat) (hx : x < 18446744073709551616) (hy : y < 18446744073709551616) (w : World) :
    Calls Tryz.prog 141 #[.int .u64 x, .int .u64 y] w fun e w' => e = .returned (.tuple #[.int .u64 ((x * y / 18446744073709551616 : Nat) : Int), .int .u64 ((x * y % 18446744073709551616 : Nat) : Int)]) ∧ w' = w := Any.bits_Mul64 Tryz.lays264 x y hx hy w
end Go.Proofs
/- The walks of layer 2: reckon.Log, and each function of the package twig, once, by what it computes. By the prover of this repo. -/
namespace Go.Proofs.YtfjgpjgphdiliaaGreat
open Go.RowKit
open TwigM

/-- Two results, a number and whether it is one. -/
abbrev nb (p : Int × Bool) : Value := .tuple #[.int .i64 p.1, .bool p.2]
abbrev nnb (p : Int × Int × Bool) : Value := .tuple #[.int .i64 p.1, .int .i64 p.2.1, .bool p.2.2]

theorem len64 (n : Int) (w : World) (h : 1 ≤ n) (h1 : n ≤ 9223372036854775807) :
    Calls Tryz.prog 127 #[.int .u64 n] w fun e w' => e = .returned (.int .i64 (lg n + 1)) ∧ w = w' :=
  (Tryz.bits_Len64 n w (by omega) (by omega)).mono fun e w' ⟨he, hw⟩ => ⟨by rw [he, bitLen_lg h h1], hw.symm⟩

theorem log_yes (n : Int) (w : World) (h : 1 ≤ n) (h1 : n ≤ 9223372036854775807) :
    Calls Tryz.prog 96 #[.int .i64 n] w fun e w' => e = .returned (.tuple #[.int .i64 (lg n), .bool true]) ∧ w = w' := by
  have hd0 := lg_nonneg n
  have hd1 := lg_le62 h h1
  go_enter Tryz.func96, Tryz.ntmps96
  go_wp2_with (go_at_call 127; refine (len64 n _ h h1).mono ?_; rintro e w' ⟨rfl, rfl⟩)
  go_ret2
  exact ⟨ret2 (int_congr (by omega)) rfl, rfl⟩
theorem log_no (n : Int) (w : World) (h : n < 1) :
    Calls Tryz.prog 96 #[.int .i64 n] w fun e w' => e = .returned (.tuple #[.int .i64 0, .bool false]) ∧ w = w' := by
  go_enter Tryz.func96, Tryz.ntmps96
  go_wp2_with fail
  go_ret2
  exact ⟨rfl, rfl⟩

theorem depth_yes (n : Int) (w : World) (h : 1 ≤ n) (h1 : n ≤ 9223372036854775807) :
    Calls Tryz.prog 60 #[.int .i64 n] w fun e w' => e = .returned (.tuple #[.int .i64 (lg n), .bool true]) ∧ w = w' := by
  go_enter Tryz.func60, Tryz.ntmps60
  go_wp2_with (go_at_call 96; refine (log_yes n _ h h1).mono ?_; rintro e w' ⟨rfl, rfl⟩)
  go_ret2
  exact ⟨rfl, rfl⟩
theorem depth_no (n : Int) (w : World) (h : n < 1) :
    Calls Tryz.prog 60 #[.int .i64 n] w fun e w' => e = .returned (.tuple #[.int .i64 0, .bool false]) ∧ w = w' := by
  go_enter Tryz.func60, Tryz.ntmps60
  go_wp2_with (go_at_call 96; refine (log_no n _ h).mono ?_; rintro e w' ⟨rfl, rfl⟩)
  go_ret2
  exact ⟨rfl, rfl⟩
theorem depth_c (n : Int) (w : World) (h1 : n ≤ 9223372036854775807) :
    Calls Tryz.prog 60 #[.int .i64 n] w fun e w' => e = .returned (nb (depthF n)) ∧ w = w' := by
  unfold depthF
  by_cases h : n < 1
  · rw [if_pos h]; exact depth_no n w h
  · rw [if_neg h]; exact depth_yes n w (by omega) h1

theorem right_yes (l id : Int) (w : World) (hl : 1 ≤ l) (hl2 : l ≤ 48) (h0 : 1 ≤ id) (h1 : id < 2 * pw l) :
    Calls Tryz.prog 81 #[.int .i64 l, .int .i64 id] w fun e w' => e = .returned (.bool true) ∧ w = w' := by
  have hp : (2 : Int) ^ l.toNat = pw l := rfl
  have hp1 := pw_pos l
  have hp2 := pw_le48 hl2
  go_enter Tryz.func81, Tryz.ntmps81
  go_wp2
  go_ret
  exact ⟨rfl, rfl⟩
theorem right_no (l id : Int) (w : World) (h : ¬ (1 ≤ l ∧ l ≤ 48 ∧ 1 ≤ id ∧ id < 2 * pw l)) :
    Calls Tryz.prog 81 #[.int .i64 l, .int .i64 id] w fun e w' => e = .returned (.bool false) ∧ w = w' := by
  have hp : (2 : Int) ^ l.toNat = pw l := rfl
  have hp1 := pw_pos l
  by_cases hl : 1 ≤ l
  · by_cases hl2 : l ≤ 48
    · have hp2 := pw_le48 hl2
      by_cases h0 : 1 ≤ id
      · have h1 : 2 * pw l ≤ id := by omega
        clear h
        go_enter Tryz.func81, Tryz.ntmps81
        go_wp2
        go_ret
        exact ⟨ret_congr (bool_false (by omega)), rfl⟩
      · clear h
        go_enter Tryz.func81, Tryz.ntmps81
        go_wp2
        go_ret
        exact ⟨rfl, rfl⟩
    · clear h hp
      go_enter Tryz.func81, Tryz.ntmps81
      go_wp2
      go_ret
      exact ⟨rfl, rfl⟩
  · clear h hp
    go_enter Tryz.func81, Tryz.ntmps81
    go_wp2
    go_ret
    exact ⟨rfl, rfl⟩
theorem right_c (l id : Int) (w : World) :
    Calls Tryz.prog 81 #[.int .i64 l, .int .i64 id] w fun e w' => e = .returned (.bool (rightB l id)) ∧ w = w' := by
  by_cases h : 1 ≤ l ∧ l ≤ 48 ∧ 1 ≤ id ∧ id < 2 * pw l
  · rw [show rightB l id = true from right_iff.2 h]; exact right_yes l id w h.1 h.2.1 h.2.2.1 h.2.2.2
  · rw [show rightB l id = false from by simpa using mt right_iff.1 h]; exact right_no l id w h

theorem leaf_c (l x : Int) (w : World) (hx : x ≤ 9223372036854775807) :
    Calls Tryz.prog 37 #[.int .i64 l, .int .i64 x] w fun e w' => e = .returned (nb (leafF l x)) ∧ w = w' := by
  have hp : (2 : Int) ^ l.toNat = pw l := rfl
  have hp1 := pw_pos l
  unfold leafF
  by_cases hl : 1 ≤ l
  · by_cases hl2 : l ≤ 48
    · have hp2 := pw_le48 hl2
      by_cases h0 : 0 ≤ x
      · by_cases h1 : x < pw l
        · rw [if_pos ⟨hl, hl2, h0, h1⟩]
          go_enter Tryz.func37, Tryz.ntmps37
          go_wp2
          go_ret2
          refine ⟨ret2 (int_congr ?_) rfl, rfl⟩
          have h2 := or_pow l.toNat x.toNat (by omega) (by have := pw_nat l; omega)
          rw [← pw_nat, show ((x.toNat : Nat) : Int) = x by omega] at h2
          rw [h2]
          have := pw_nat l
          omega
        · rw [if_neg (by omega)]
          go_enter Tryz.func37, Tryz.ntmps37
          go_wp2
          go_ret2
          exact ⟨rfl, rfl⟩
      · rw [if_neg (by omega)]
        clear hp
        go_enter Tryz.func37, Tryz.ntmps37
        go_wp2
        go_ret2
        exact ⟨rfl, rfl⟩
    · rw [if_neg (by omega)]
      clear hp
      go_enter Tryz.func37, Tryz.ntmps37
      go_wp2
      go_ret2
      exact ⟨rfl, rfl⟩
  · rw [if_neg (by omega)]
    clear hp
    go_enter Tryz.func37, Tryz.ntmps37
    go_wp2
    go_ret2
    exact ⟨rfl, rfl⟩

theorem ends_yes (l id : Int) (w : World) (hl : 1 ≤ l) (hl2 : l ≤ 48) (h0 : 1 ≤ id) (h1 : id < 2 * pw l) :
    Calls Tryz.prog 50 #[.int .i64 l, .int .i64 id] w fun e w' => e = .returned (.tuple #[.int .i64 (loF l id), .int .i64 (loF l id + pw (l - lg id) - 1), .bool true]) ∧ ∃ n, w' = w.drewN n := by
  have hp2 := pw_le48 hl2
  have hd0 := lg_nonneg id
  have hd1 := (lg_le h0 (by omega)).2 h1
  have hs := lg_spec h0
  have hq : loF l id = (id - pw (lg id)) * pw (l - lg id) := rfl
  have hq0 : 0 ≤ loF l id := by rw [hq]; exact Int.mul_nonneg (by omega) (by have := pw_pos (l - lg id); omega)
  have hpr : pw (lg id) * pw (l - lg id) = pw l := by rw [← pw_add hd0 (by omega)]; congr 1; omega
  have hq1 : loF l id + pw (l - lg id) ≤ pw l := by
    have e : (id - pw (lg id)) * pw (l - lg id) + pw (l - lg id) = (id - pw (lg id) + 1) * pw (l - lg id) := by rw [Int.add_mul, Int.one_mul]
    rw [hq, ← hpr, e]
    exact Int.mul_le_mul_of_nonneg_right (by omega) (by have := pw_pos (l - lg id); omega)
  have hb1 := pw_pos (l - lg id)
  have hb2 := pw_pos (lg id)
  have hlt : id ≤ 9223372036854775807 := by omega
  clear hpr
  generalize hd : lg id = d at *
  have hDe := hide hd
  clear hd
  generalize hQ : loF l id = q at *
  have hQ := hide hQ
  have hpd : (2 : Int) ^ d.toNat = pw d := rfl
  have hpb : (2 : Int) ^ (l - d).toNat = pw (l - d) := rfl
  go_enter Tryz.func50, Tryz.ntmps50
  go_wp2_with (first
    | (go_at_call 81; refine (right_yes l id _ hl hl2 h0 h1).mono ?_; rintro e w' ⟨rfl, rfl⟩)
    | (go_at_call 60; refine (depth_yes id _ h0 hlt).mono ?_; rw [hDe.out]; rintro e w' ⟨rfl, rfl⟩))
  go_wp2
  go_quiet (fail)
  go_wp2
  go_ret3
  exact ⟨ret3 (int_congr (by rw [← hq])) (int_congr (by rw [← hq])) rfl, nq, rfl⟩
theorem ends_no (l id : Int) (w : World) (h : ¬ (1 ≤ l ∧ l ≤ 48 ∧ 1 ≤ id ∧ id < 2 * pw l)) :
    Calls Tryz.prog 50 #[.int .i64 l, .int .i64 id] w fun e w' => e = .returned (.tuple #[.int .i64 0, .int .i64 0, .bool false]) ∧ w = w' := by
  have h := hide h
  go_enter Tryz.func50, Tryz.ntmps50
  go_wp2_with (go_at_call 81; refine (right_no l id _ h.out).mono ?_; rintro e w' ⟨rfl, rfl⟩)
  go_ret3
  exact ⟨rfl, rfl⟩
theorem ends_c (l id : Int) (w : World) :
    Calls Tryz.prog 50 #[.int .i64 l, .int .i64 id] w fun e w' => e = .returned (nnb (endsF l id)) ∧ ∃ n, w' = w.drewN n := by
  unfold endsF
  by_cases h : 1 ≤ l ∧ l ≤ 48 ∧ 1 ≤ id ∧ id < 2 * pw l
  · rw [if_pos (right_iff.2 h)]; exact ends_yes l id w h.1 h.2.1 h.2.2.1 h.2.2.2
  · rw [if_neg (fun k => h (right_iff.1 k))]
    exact (ends_no l id w h).mono fun e w' ⟨he, hw⟩ => ⟨he, 0, hw ▸ rfl⟩

theorem kids_c (l id : Int) (w : World) :
    Calls Tryz.prog 126 #[.int .i64 l, .int .i64 id] w fun e w' => e = .returned (nnb (kidsF l id)) ∧ w = w' := by
  have hp : (2 : Int) ^ l.toNat = pw l := rfl
  have hp1 := pw_pos l
  unfold kidsF
  by_cases hr : 1 ≤ l ∧ l ≤ 48 ∧ 1 ≤ id ∧ id < 2 * pw l
  · have hR := right_iff.2 hr
    obtain ⟨hl, hl2, h0, h1⟩ := hr
    have hp2 := pw_le48 hl2
    by_cases h2 : id < pw l
    · rw [if_pos ⟨hR, h2⟩]
      clear hR
      go_enter Tryz.func126, Tryz.ntmps126
      go_wp2_with (go_at_call 81; refine (right_yes l id _ hl hl2 h0 h1).mono ?_; rintro e w' ⟨rfl, rfl⟩)
      go_ret3
      exact ⟨rfl, rfl⟩
    · rw [if_neg (fun k => h2 k.2)]
      clear hR
      go_enter Tryz.func126, Tryz.ntmps126
      go_wp2_with (go_at_call 81; refine (right_yes l id _ hl hl2 h0 h1).mono ?_; rintro e w' ⟨rfl, rfl⟩)
      go_ret3
      exact ⟨rfl, rfl⟩
  · rw [if_neg (fun k => hr (right_iff.1 k.1))]
    have hr := hide hr
    clear hp hp1
    go_enter Tryz.func126, Tryz.ntmps126
    go_wp2_with (go_at_call 81; refine (right_no l id _ hr.out).mono ?_; rintro e w' ⟨rfl, rfl⟩)
    go_ret3
    exact ⟨rfl, rfl⟩
end Go.Proofs.YtfjgpjgphdiliaaGreat
/- The walks of layer 2's reference: each function of the package dewpondref02, once, by what it computes. By the prover of this repo. -/
namespace Go.Proofs.YtfjgpjgphdiliaaGreat
open Go.RowKit
open TwigM

theorem rpower (n : Int) (w : World) (h : n ≤ 62) : Calls Tryz.prog 30 #[.int .i64 n] w fun e w' => e = .returned (.int .i64 (pw n)) ∧ w = w' := by
  go_enter Tryz.func30, Tryz.ntmps30
  go_wp2
  go_loop [3, 4] (fun p i => ∃ k : Int, 0 ≤ k ∧ (k ≤ n ∨ k = 0) ∧ i = .int .i64 k ∧ p = .int .i64 (pw k)) (fun _ i => (n - intOf i).toNat)
  case atStart => exact ⟨0, by omega, .inr rfl, rfl, rfl⟩
  case round =>
    obtain ⟨k, hk0, hk, rfl, rfl⟩ := hrel
    have hp := pw_pos k
    have hs := hide (pw_succ hk0)
    by_cases hlt : k < n
    · have hp2 := pw_le62 (show k ≤ 61 + 1 by omega)
      have hp3 := pw_mono (show k ≤ 61 by omega)
      have h61 : pw 61 = 2305843009213693952 := rfl
      have hp4 : pw k ≤ 2305843009213693952 := by omega
      clear hk h61 hp3
      go_wp2
      go_round
      case rel => exact ⟨k + 1, by omega, .inl (by omega), rfl, int_congr (by rw [hs.out])⟩
      case measure => simp [intOf]; omega
    · have hk2 : Hid (pw k = pw n) := by
        show _ = _
        rcases hk with hk | hk
        · rw [show k = n by omega]
        · rw [hk, pw_zero, pw_neg (by omega)]
      clear hk
      go_wp2
      go_ret
      exact ⟨ret_congr (int_congr hk2.out), rfl⟩

end Go.Proofs.YtfjgpjgphdiliaaGreat
/- The walks of layer 2's reference, on: leaves, ends, ways up, and where they meet. By the prover of this repo. -/
namespace Go.Proofs.YtfjgpjgphdiliaaGreat
open Go.RowKit
open TwigM

end Go.Proofs.YtfjgpjgphdiliaaGreat
/- The walks of layer 2, on: twig.Above, Meet, Graft, Prune, each once, by what it computes. By the prover of this repo. -/
namespace Go.Proofs.YtfjgpjgphdiliaaGreat
open Go.RowKit
open TwigM

theorem graft_c (id by_ : Int) (w : World) (h1 : id ≤ 9223372036854775807) (hb1 : by_ ≤ 9223372036854775807) (hb2 : -9223372036854775808 ≤ by_) :
    Calls Tryz.prog 24 #[.int .i64 id, .int .i64 by_] w fun e w' => e = .returned (nb (graftF id by_)) ∧ ∃ n, w' = w.drewN n := by
  by_cases h : 1 ≤ id
  · have hd0 := lg_nonneg id
    have hd1 := lg_le62 h h1
    have hs := lg_spec h
    by_cases h2 : 0 ≤ by_ ∧ lg id + by_ ≤ 48
    · obtain ⟨h2, h3⟩ := h2
      have hG : Hid (graftF id by_ = (id - pw (lg id) + pw (lg id + by_), true)) := by show _ = _; unfold graftF; rw [if_pos ⟨h, h2, h3⟩]
      have hq1 := pw_pos (lg id)
      have hq2 := pw_pos (lg id + by_)
      have hq3 := pw_le48 h3
      have hq4 := pw_le48 (show lg id ≤ 48 by omega)
      generalize hd : lg id = d at *
      have hD := hide hd
      clear hd
      have hp : (2 : Int) ^ d.toNat = pw d := rfl
      have hp2 : (2 : Int) ^ (d + by_).toNat = pw (d + by_) := rfl
      go_enter Tryz.func24, Tryz.ntmps24
      go_wp2_with fail
      refine (depth_yes id _ h h1).mono ?_
      rw [hD.out]
      rintro e w' ⟨rfl, rfl⟩
      go_wp2_with fail
      go_quiet (fail)
      go_wp2
      go_ret2
      exact ⟨by rw [hG.out]; rfl, nq, rfl⟩
    · have hG : Hid (graftF id by_ = (0, false)) := by show _ = _; unfold graftF; rw [if_neg fun k => h2 k.2]
      generalize hd : lg id = d at *
      have hD := hide hd
      clear hd
      by_cases h3 : 0 ≤ by_
      · have h4 : 48 - d < by_ := by omega
        clear h2
        go_enter Tryz.func24, Tryz.ntmps24
        go_wp2_with fail
        refine (depth_yes id _ h h1).mono ?_
        rw [hD.out]
        rintro e w' ⟨rfl, rfl⟩
        go_wp2_with fail
        go_ret2
        exact ⟨by rw [hG.out]; rfl, 0, rfl⟩
      · clear h2
        go_enter Tryz.func24, Tryz.ntmps24
        go_wp2_with fail
        refine (depth_yes id _ h h1).mono ?_
        rw [hD.out]
        rintro e w' ⟨rfl, rfl⟩
        go_wp2_with fail
        go_ret2
        exact ⟨by rw [hG.out]; rfl, 0, rfl⟩
  · have hG : Hid (graftF id by_ = (0, false)) := by show _ = _; unfold graftF; rw [if_neg fun k => h k.1]
    go_enter Tryz.func24, Tryz.ntmps24
    go_wp2_with fail
    refine (depth_no id _ (by omega)).mono ?_
    rintro e w' ⟨rfl, rfl⟩
    go_wp2_with fail
    go_ret2
    exact ⟨by rw [hG.out]; rfl, 0, rfl⟩

theorem prune_c (id depth : Int) (w : World) (h1 : id ≤ 9223372036854775807) (hb1 : depth ≤ 9223372036854775807) :
    Calls Tryz.prog 28 #[.int .i64 id, .int .i64 depth] w fun e w' => e = .returned (nb (pruneF id depth)) ∧ w = w' := by
  by_cases h : 1 ≤ id
  · have hd0 := lg_nonneg id
    have hd1 := lg_le62 h h1
    by_cases h2 : 0 ≤ depth
    · have hG : Hid (pruneF id depth = (id / pw (lg id - depth), true)) := by show _ = _; unfold pruneF; rw [if_pos ⟨h, h2⟩]
      by_cases h3 : lg id ≤ depth
      · rw [pw_neg (show lg id - depth ≤ 0 by omega), Int.ediv_one] at hG
        generalize hd : lg id = d at *
        have hD := hide hd
        clear hd
        go_enter Tryz.func28, Tryz.ntmps28
        go_wp2_with fail
        refine (depth_yes id _ h h1).mono ?_
        rw [hD.out]
        rintro e w' ⟨rfl, rfl⟩
        go_wp2_with fail
        go_ret2
        refine ⟨?_, rfl⟩
        rw [hG.out]
        exact ret2 (int_congr (by rw [show (max 0 (d - depth)).toNat = 0 by omega]; simp)) rfl
      · have hq : 0 ≤ id / pw (lg id - depth) ∧ id / pw (lg id - depth) ≤ id := ⟨Int.ediv_nonneg (by omega) (by have := pw_pos (lg id - depth); omega), Int.ediv_le_self _ (by omega)⟩
        generalize hd : lg id = d at *
        have hD := hide hd
        clear hd
        go_enter Tryz.func28, Tryz.ntmps28
        go_wp2_with fail
        refine (depth_yes id _ h h1).mono ?_
        rw [hD.out]
        rintro e w' ⟨rfl, rfl⟩
        go_wp2_with fail
        go_ret2
        refine ⟨?_, rfl⟩
        rw [hG.out]
        exact ret2 (int_congr (by rw [show (max 0 (d - depth)).toNat = (d - depth).toNat by omega]; rfl)) rfl
    · have hG : Hid (pruneF id depth = (0, false)) := by show _ = _; unfold pruneF; rw [if_neg fun k => h2 k.2]
      generalize hd : lg id = d at *
      have hD := hide hd
      clear hd
      go_enter Tryz.func28, Tryz.ntmps28
      go_wp2_with fail
      refine (depth_yes id _ h h1).mono ?_
      rw [hD.out]
      rintro e w' ⟨rfl, rfl⟩
      go_wp2_with fail
      go_ret2
      exact ⟨by rw [hG.out]; rfl, rfl⟩
  · have hG : Hid (pruneF id depth = (0, false)) := by show _ = _; unfold pruneF; rw [if_neg fun k => h k.1]
    go_enter Tryz.func28, Tryz.ntmps28
    go_wp2_with fail
    refine (depth_no id _ (by omega)).mono ?_
    rintro e w' ⟨rfl, rfl⟩
    go_wp2_with fail
    go_ret2
    exact ⟨by rw [hG.out]; rfl, rfl⟩

end Go.Proofs.YtfjgpjgphdiliaaGreat
/- The walks of layer 6: lists of nodes as slices; their sum, whether they are a roll, a node's weight, whether two are the same. By the prover of this repo. -/
namespace Go.Proofs.YtfjgpjgphdiliaaGreat
open Go.RowKit
open TwigM RollM

abbrev nv (p : Nd) : Value := .agg #[.int .i64 p.1, .int .i64 p.2]
/-- The cells of a list of nodes. -/
def ndc (l : List Nd) (j : Nat) : Value := .int .i64 (if j % 2 = 0 then (l.getD (j / 2) (0, 0)).1 else (l.getD (j / 2) (0, 0)).2)
def ndv (l : List Nd) : List Value := l.flatMap fun p => [.int .i64 p.1, .int .i64 p.2]
/-- Both parts of each in their type's bounds. -/
def NdWf (l : List Nd) : Prop := ∀ p ∈ l, -9223372036854775808 ≤ p.1 ∧ p.1 ≤ 9223372036854775807 ∧ -9223372036854775808 ≤ p.2 ∧ p.2 ≤ 9223372036854775807

/-- A slice value reads as a list of nodes. -/
def Nds (w : World) (v : Value) (l : List Nd) : Prop := ∃ A c, v = .slice A l.length c ∧ (A = none → l.length = 0) ∧ l.length ≤ c ∧ c ≤ maxLen ∧ Rd w A l.length 2 (ndc l)
section
variable {w w' : World} {v : Value} {l : List Nd}
theorem Nds.kept (h : Nds w v l) (hb : Below w.heap.size w w') : Nds w' v l := by
  obtain ⟨A, c, h1, h2, h3, h4, h5⟩ := h
  exact ⟨A, c, h1, h2, h3, h4, h5.kept hb⟩
theorem Nds.nil (w : World) : Nds w (.slice none 0 0) [] := ⟨none, 0, rfl, fun _ => rfl, Nat.le_refl _, by unfold maxLen; omega, Rd.zero _ _ _ _⟩
end
/-- The cells of element k. -/
theorem rd_at {w : World} {A : Option Addr} {l : List Nd} (h : Rd w A l.length 2 (ndc l)) {k : Nat} (hk : k < l.length) :
    ∃ b off, A = some ⟨b, off, none⟩ ∧ b < w.heap.size ∧ w.cell? ⟨b, off + k * 2, none⟩ = some (.int .i64 l[k].1) ∧ w.cell? ⟨b, off + k * 2 + 1, none⟩ = some (.int .i64 l[k].2) := by
  obtain ⟨b, off, e, hb, hc⟩ := h (by omega)
  refine ⟨b, off, e, hb, ?_, ?_⟩
  · have := hc (k * 2) (by omega)
    rw [this]
    simp [ndc, hk]
  · have := hc (k * 2 + 1) (by omega)
    rw [Nat.add_assoc, this]
    have h1 : (k * 2 + 1) % 2 = 1 := by omega
    have h2 : (k * 2 + 1) / 2 = k := by omega
    simp [ndc, h1, h2, hk]

theorem tot_nil (n : Int) : totGo n [] = (n, true) := rfl
theorem tot_bad {n : Int} {p : Nd} {l : List Nd} (h : p.2 < 0 ∨ 72057594037927935 - n < p.2) : totGo n (p :: l) = (0, false) := if_pos h
theorem tot_on {n : Int} {p : Nd} {l : List Nd} (h : ¬ (p.2 < 0 ∨ 72057594037927935 - n < p.2)) : totGo n (p :: l) = totGo (n + p.2) l := if_neg h

theorem reckon_counts (a b : Int) (w : World) : Calls Tryz.prog 128 #[.int .i64 a, .int .i64 b] w fun e w' => e = .returned (.bool (decide (0 ≤ a ∧ 0 ≤ b))) ∧ w = w' := by
  by_cases h : 0 ≤ a
  · by_cases h2 : 0 ≤ b
    · rw [decide_eq_true ⟨h, h2⟩]
      go_enter Tryz.func128, Tryz.ntmps128
      go_wp2_with fail
      go_ret
      exact ⟨rfl, rfl⟩
    · rw [decide_eq_false (fun k => h2 k.2)]
      go_enter Tryz.func128, Tryz.ntmps128
      go_wp2_with fail
      go_ret
      exact ⟨rfl, rfl⟩
  · rw [decide_eq_false (fun k => h k.1)]
    go_enter Tryz.func128, Tryz.ntmps128
    go_wp2_with fail
    go_ret
    exact ⟨rfl, rfl⟩
def addF (a b : Int) : Int × Bool := if 0 ≤ a ∧ 0 ≤ b ∧ a ≤ 9223372036854775807 - b then (a + b, true) else (0, false)
theorem reckon_add (a b : Int) (w : World) (ha : a ≤ 9223372036854775807) (hb : b ≤ 9223372036854775807) : Calls Tryz.prog 101 #[.int .i64 a, .int .i64 b] w fun e w' => e = .returned (nb (addF a b)) ∧ w = w' := by
  have hc := fun W => reckon_counts a b W
  unfold addF
  by_cases h : 0 ≤ a ∧ 0 ≤ b
  · rw [decide_eq_true h] at hc
    replace hc := hide hc
    obtain ⟨h0, h1⟩ := h
    by_cases h2 : a ≤ 9223372036854775807 - b
    · rw [if_pos ⟨h0, h1, h2⟩]
      go_enter Tryz.func101, Tryz.ntmps101
      go_wp2_with (go_at_call 128; refine (hc.out _).mono ?_; rintro e w1 ⟨rfl, rfl⟩)
      go_ret2
      exact ⟨rfl, rfl⟩
    · rw [if_neg (fun k => h2 k.2.2)]
      go_enter Tryz.func101, Tryz.ntmps101
      go_wp2_with (go_at_call 128; refine (hc.out _).mono ?_; rintro e w1 ⟨rfl, rfl⟩)
      go_ret2
      exact ⟨rfl, rfl⟩
  · rw [decide_eq_false h] at hc
    replace hc := hide hc
    rw [if_neg (fun k => h ⟨k.1, k.2.1⟩)]
    clear h
    go_enter Tryz.func101, Tryz.ntmps101
    go_wp2_with (go_at_call 128; refine (hc.out _).mono ?_; rintro e w1 ⟨rfl, rfl⟩)
    go_ret2
    exact ⟨rfl, rfl⟩

set_option maxRecDepth 100000 in
theorem roll_total (A : Option Addr) (c : Nat) (l : List Nd) (w : World) (hr : Rd w A l.length 2 (ndc l)) (hl : l.length ≤ 1000000) (hwf : NdWf l) :
    Calls Tryz.prog 91 #[.slice A l.length c] w fun e w' => e = .returned (nb (totF l)) ∧ Below w.heap.size w w' := by
  unfold totF
  generalize hG : totGo 0 l = G
  replace hG := hide hG
  obtain ⟨n, hn⟩ : ∃ n, Hid (l.length = n) := ⟨_, rfl⟩
  rw [hn.out] at hl
  have hrn : Hid (Rd w A l.length 2 (ndc l)) := hr
  rw [hn.out]
  clear hr
  go_enter Tryz.func91, Tryz.ntmps91
  go_wp2_with fail
  go_loopw [4, 11] (fun s k wr => ∃ (t : Int) (i : Nat), i ≤ n ∧ 0 ≤ t ∧ t ≤ 72057594037927935 ∧ s = .int .i64 t ∧ k = .int .i64 i ∧ Hid (totGo t (l.drop i) = G) ∧ Below w.heap.size w wr) (fun _ k _ => n - (intOf k).toNat)
  case atStart => exact ⟨0, 0, by omega, by omega, by omega, rfl, rfl, by show _ = _; rw [List.drop_zero, hG.out], Below.refl _ _⟩
  case round =>
    obtain ⟨t, i, hi, ht0, ht1, rfl, rfl, hgo, hbel⟩ := hrel
    by_cases hlt : i < n
    · have hil : i < l.length := by rw [hn.out]; exact hlt
      obtain ⟨b, off, rfl, hb, c0, c1⟩ := rd_at (hrn.out.of_below (Nat.le_refl _) hbel) hil
      have hw := hwf l[i] (List.getElem_mem hil)
      rw [List.drop_eq_getElem_cons hil] at hgo
      generalize l[i] = p at *
      obtain ⟨x, y⟩ := p
      simp only at c0 c1 hw
      obtain ⟨_, _, hy0, hy1⟩ := hw
      have hA := fun W => reckon_add t y W (by omega) hy1
      by_cases hbad : y < 0 ∨ 72057594037927935 - t < y
      · have hres : Hid ((0, false) = G) := by rw [← hgo.out, tot_bad hbad]; rfl
        by_cases hy : 0 ≤ y
        · have hF : addF t y = (t + y, true) ∨ addF t y = (0, false) := by
            unfold addF; by_cases h : 0 ≤ t ∧ 0 ≤ y ∧ t ≤ 9223372036854775807 - y
            · exact .inl (if_pos h)
            · exact .inr (if_neg h)
          have hbig : 72057594037927935 < t + y := by omega
          rcases hF with hF | hF
          all_goals
            rw [hF] at hA
            replace hA := hide hA
            clear hF hbad
            go_wp2_with (go_at_call 101; refine (hA.out _).mono ?_; rintro e w1 ⟨rfl, rfl⟩)
            go_ret2
            exact ⟨by rw [← hres.out]; rfl, balloc hbel _⟩
        · have hF : addF t y = (0, false) := if_neg (fun k => hy k.2.1)
          rw [hF] at hA
          replace hA := hide hA
          clear hF hbad
          go_wp2_with (go_at_call 101; refine (hA.out _).mono ?_; rintro e w1 ⟨rfl, rfl⟩)
          go_ret2
          exact ⟨by rw [← hres.out]; rfl, balloc hbel _⟩
      · have hgo2 : Hid (totGo (t + y) (l.drop (i + 1)) = G) := by rw [← hgo.out, tot_on hbad]; rfl
        have hF : addF t y = (t + y, true) := if_pos (by omega)
        rw [hF] at hA
        replace hA := hide hA
        have hle : t + y ≤ 72057594037927935 := by omega
        have hge : 0 ≤ t + y := by omega
        clear hF hbad
        go_wp2_with (go_at_call 101; refine (hA.out _).mono ?_; rintro e w1 ⟨rfl, rfl⟩)
        go_roundw
        case rel => exact ⟨t + y, i + 1, by omega, hge, hle, rfl, by go_num, hgo2, balloc hbel _⟩
        case measure => simp [intOf]; omega
    · have hres : Hid ((t, true) = G) := by rw [← hgo.out, List.drop_of_length_le (by rw [hn.out]; omega)]; rfl
      go_wp2_with fail
      go_ret2
      exact ⟨by rw [← hres.out]; rfl, hbel⟩
end Go.Proofs.YtfjgpjgphdiliaaGreat

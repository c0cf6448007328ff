/-
  NARROWER THAN 'FOR EVERY INPUT', by the rows' own cells (each row's printed sentence says how): CrewEach: laid · CrewMoves: laid · CrewMakes: laid · CrewTexts: laid · CrewBack: laid.
  DERIVED. THE GIVEN ROWS OF THIS SEAT. 5 by the template 'for every input the law returns true; each argument reads behind the call as it read before'; 0 by the template 'total and deterministic' (their statements: YtlnbglpddpgooaaDoorTotals.lean).
  GIVEN WITH THE SEED: the statements are not yours to turn. If you find one false, say at which input.
  Laid BY PROGRAM, IN A SANDBOX (cutbox-rows.mjs): the forced cells as the released guide's own fill.sh prints them over the translation a193f3dcea44ee53… (all of the seat's roots in one cut). By AI agents, Wed Nov 11 2026. No macro, syntax, notation, axiom, sorry.
-/
import Derived.Test.YtlnbglpddpgooaaDoorChecked
import GoSem.PinnedTables
import GoSem.Claim
import GoSem.ClaimJoined
import GoSem.ClaimMapViews
import Derived.JoinedTies
import Derived.KernelRfl
namespace Go.Proofs.YtlnbglpddpgooaaDoor
/- THE CELL 'sum', in the pinned program and in every row, IS THE sha256 OF THE DUMP (.gsa) THAT YtlnbglpddpgooaaDoorProg.lean LOADS. Nothing in Lean hashes anything: it is a label: what it is worth is what the hold of that sum in a sandbox is worth. -/
noncomputable def Tryd.pinned : Pinned := { name := "ytlnbglpddpgooaadoor", sum := "a193f3dcea44ee53287fa40634eea7eb28e84da0e03bf3e916857c01d37b68a1", checked := Tryd.checked }
namespace Rows
def none {H : Type} : Left H := { results := [], args := [] }

/- WHAT THE LISTED PACKAGE-LEVEL VARIABLES READ AS WHEN THE CALL BEGINS. Each datum BY PROGRAM (the guide's laid-datum.mjs) off the statement by which the dump's own 'gosem.cut.vars' lays the variable. In a bare row this is a premise. The card (YtlnbglpddpgooaaDoorCards.lean) ties it to the program's text. -/
def laid_math_bits_deBruijn64tab {H : Type} : DataW H := .agg [.lit (.int .u8 0), .lit (.int .u8 1), .lit (.int .u8 56), .lit (.int .u8 2), .lit (.int .u8 57), .lit (.int .u8 49), .lit (.int .u8 28), .lit (.int .u8 3), .lit (.int .u8 61), .lit (.int .u8 58), .lit (.int .u8 42), .lit (.int .u8 50), .lit (.int .u8 38), .lit (.int .u8 29), .lit (.int .u8 17), .lit (.int .u8 4), .lit (.int .u8 62), .lit (.int .u8 47), .lit (.int .u8 59), .lit (.int .u8 36), .lit (.int .u8 45), .lit (.int .u8 43), .lit (.int .u8 51), .lit (.int .u8 22), .lit (.int .u8 53), .lit (.int .u8 39), .lit (.int .u8 33), .lit (.int .u8 30), .lit (.int .u8 24), .lit (.int .u8 18), .lit (.int .u8 12), .lit (.int .u8 5), .lit (.int .u8 63), .lit (.int .u8 55), .lit (.int .u8 48), .lit (.int .u8 27), .lit (.int .u8 60), .lit (.int .u8 41), .lit (.int .u8 37), .lit (.int .u8 16), .lit (.int .u8 46), .lit (.int .u8 35), .lit (.int .u8 44), .lit (.int .u8 21), .lit (.int .u8 52), .lit (.int .u8 32), .lit (.int .u8 23), .lit (.int .u8 11), .lit (.int .u8 54), .lit (.int .u8 26), .lit (.int .u8 40), .lit (.int .u8 15), .lit (.int .u8 34), .lit (.int .u8 20), .lit (.int .u8 31), .lit (.int .u8 10), .lit (.int .u8 25), .lit (.int .u8 14), .lit (.int .u8 19), .lit (.int .u8 9), .lit (.int .u8 13), .lit (.int .u8 8), .lit (.int .u8 7), .lit (.int .u8 6)]
def laid_unicode_utf8_acceptRanges {H : Type} : DataW H := .agg [.agg [.lit (.int .u8 128), .lit (.int .u8 191)], .agg [.lit (.int .u8 160), .lit (.int .u8 191)], .agg [.lit (.int .u8 128), .lit (.int .u8 159)], .agg [.lit (.int .u8 144), .lit (.int .u8 191)], .agg [.lit (.int .u8 128), .lit (.int .u8 143)], .agg [.lit (.int .u8 0), .lit (.int .u8 0)], .agg [.lit (.int .u8 0), .lit (.int .u8 0)], .agg [.lit (.int .u8 0), .lit (.int .u8 0)], .agg [.lit (.int .u8 0), .lit (.int .u8 0)], .agg [.lit (.int .u8 0), .lit (.int .u8 0)], .agg [.lit (.int .u8 0), .lit (.int .u8 0)], .agg [.lit (.int .u8 0), .lit (.int .u8 0)], .agg [.lit (.int .u8 0), .lit (.int .u8 0)], .agg [.lit (.int .u8 0), .lit (.int .u8 0)], .agg [.lit (.int .u8 0), .lit (.int .u8 0)], .agg [.lit (.int .u8 0), .lit (.int .u8 0)]]
/-- One of Go's own tables, pinned by name: the form's constant. -/
def laid_unicode_utf8_first : DataW Unit := Go.Pinned.utf8First

/-- 'dewpondlaw27.CrewEach': WHATEVER THE INPUT: true; the input reads as it did. -/
def crewEachSpec : ChangeSpec := { name := "crewEach", fn := fun _ => fun
  | [d1, d2] => { results := [.lit (.bool true)], args := [d1, d2] }
  | _ => none }
def crewEachRow : OpenClaim := { program := "ytlnbglpddpgooaadoor", sum := "a193f3dcea44ee53287fa40634eea7eb28e84da0e03bf3e916857c01d37b68a1", func := "dewpond/dewpondlaw27.CrewEach", spec := "crewEach", inPlace := ["internal/abi.NoEscape", "internal/bytealg.MakeNoZero"], unfollowed := true, recurses := true, named := ["math/bits.deBruijn64tab"], apart := false, laid := [("math/bits.deBruijn64tab", laid_math_bits_deBruijn64tab)] }
def CrewEachSaid : Prop := crewEachRow.holds Tryd.pinned (OpenSpec.ofChange crewEachSpec)

/-- ITS FALSE NEIGHBOUR: 'it returns false'. Refute it at one input. -/
def crewEachWrong : ChangeSpec := { name := "crewEach", fn := fun _ => fun
  | [d1, d2] => { results := [.lit (.bool false)], args := [d1, d2] }
  | _ => none }
def CrewEachWrongFalsely : Prop := crewEachRow.holds Tryd.pinned (OpenSpec.ofChange crewEachWrong)

/-- 'dewpondlaw27.CrewMoves': WHATEVER THE INPUT: true; the input reads as it did. -/
def crewMovesSpec : ChangeSpec := { name := "crewMoves", fn := fun _ => fun
  | [d1, d2, d3] => { results := [.lit (.bool true)], args := [d1, d2, d3] }
  | _ => none }
def crewMovesRow : OpenClaim := { program := "ytlnbglpddpgooaadoor", sum := "a193f3dcea44ee53287fa40634eea7eb28e84da0e03bf3e916857c01d37b68a1", func := "dewpond/dewpondlaw27.CrewMoves", spec := "crewMoves", inPlace := ["internal/abi.NoEscape", "internal/bytealg.MakeNoZero"], unfollowed := true, recurses := true, named := ["math/bits.deBruijn64tab"], apart := false, laid := [("math/bits.deBruijn64tab", laid_math_bits_deBruijn64tab)] }
def CrewMovesSaid : Prop := crewMovesRow.holds Tryd.pinned (OpenSpec.ofChange crewMovesSpec)

/-- ITS FALSE NEIGHBOUR: 'it returns false'. Refute it at one input. -/
def crewMovesWrong : ChangeSpec := { name := "crewMoves", fn := fun _ => fun
  | [d1, d2, d3] => { results := [.lit (.bool false)], args := [d1, d2, d3] }
  | _ => none }
def CrewMovesWrongFalsely : Prop := crewMovesRow.holds Tryd.pinned (OpenSpec.ofChange crewMovesWrong)

/-- 'dewpondlaw27.CrewMakes': WHATEVER THE INPUT: true; the input reads as it did. -/
def crewMakesSpec : ChangeSpec := { name := "crewMakes", fn := fun _ => fun
  | [d1, d2, d3] => { results := [.lit (.bool true)], args := [d1, d2, d3] }
  | _ => none }
def crewMakesRow : OpenClaim := { program := "ytlnbglpddpgooaadoor", sum := "a193f3dcea44ee53287fa40634eea7eb28e84da0e03bf3e916857c01d37b68a1", func := "dewpond/dewpondlaw27.CrewMakes", spec := "crewMakes", inPlace := ["internal/abi.NoEscape", "internal/bytealg.MakeNoZero"], unfollowed := true, recurses := true, named := ["math/bits.deBruijn64tab"], apart := false, laid := [("math/bits.deBruijn64tab", laid_math_bits_deBruijn64tab)] }
def CrewMakesSaid : Prop := crewMakesRow.holds Tryd.pinned (OpenSpec.ofChange crewMakesSpec)

/-- ITS FALSE NEIGHBOUR: 'it returns false'. Refute it at one input. -/
def crewMakesWrong : ChangeSpec := { name := "crewMakes", fn := fun _ => fun
  | [d1, d2, d3] => { results := [.lit (.bool false)], args := [d1, d2, d3] }
  | _ => none }
def CrewMakesWrongFalsely : Prop := crewMakesRow.holds Tryd.pinned (OpenSpec.ofChange crewMakesWrong)

/-- 'dewpondlaw27.CrewTexts': WHATEVER THE INPUT: true; the input reads as it did. -/
def crewTextsSpec : ChangeSpec := { name := "crewTexts", fn := fun _ => fun
  | [d1, d2] => { results := [.lit (.bool true)], args := [d1, d2] }
  | _ => none }
def crewTextsRow : OpenClaim := { program := "ytlnbglpddpgooaadoor", sum := "a193f3dcea44ee53287fa40634eea7eb28e84da0e03bf3e916857c01d37b68a1", func := "dewpond/dewpondlaw27.CrewTexts", spec := "crewTexts", inPlace := ["internal/abi.NoEscape", "internal/bytealg.MakeNoZero", "internal/bytealg.IndexByteString", "internal/bytealg.IndexString"], unfollowed := true, recurses := true, named := ["math/bits.deBruijn64tab", "unicode/utf8.first", "unicode/utf8.acceptRanges", "internal/bytealg.MaxLen"], apart := false, laid := [("math/bits.deBruijn64tab", laid_math_bits_deBruijn64tab), ("unicode/utf8.acceptRanges", laid_unicode_utf8_acceptRanges), ("unicode/utf8.first", laid_unicode_utf8_first)] }
def CrewTextsSaid : Prop := crewTextsRow.holds Tryd.pinned (OpenSpec.ofChange crewTextsSpec)

/-- ITS FALSE NEIGHBOUR: 'it returns false'. Refute it at one input. -/
def crewTextsWrong : ChangeSpec := { name := "crewTexts", fn := fun _ => fun
  | [d1, d2] => { results := [.lit (.bool false)], args := [d1, d2] }
  | _ => none }
def CrewTextsWrongFalsely : Prop := crewTextsRow.holds Tryd.pinned (OpenSpec.ofChange crewTextsWrong)

/-- 'dewpondlaw27.CrewBack': WHATEVER THE INPUT: true; the input reads as it did. -/
def crewBackSpec : ChangeSpec := { name := "crewBack", fn := fun _ => fun
  | [d1, d2] => { results := [.lit (.bool true)], args := [d1, d2] }
  | _ => none }
def crewBackRow : OpenClaim := { program := "ytlnbglpddpgooaadoor", sum := "a193f3dcea44ee53287fa40634eea7eb28e84da0e03bf3e916857c01d37b68a1", func := "dewpond/dewpondlaw27.CrewBack", spec := "crewBack", inPlace := ["internal/abi.NoEscape", "internal/bytealg.MakeNoZero", "internal/bytealg.IndexByteString", "internal/bytealg.IndexString"], unfollowed := true, recurses := true, named := ["math/bits.deBruijn64tab", "unicode/utf8.first", "unicode/utf8.acceptRanges", "internal/bytealg.MaxLen"], apart := false, laid := [("math/bits.deBruijn64tab", laid_math_bits_deBruijn64tab), ("unicode/utf8.acceptRanges", laid_unicode_utf8_acceptRanges), ("unicode/utf8.first", laid_unicode_utf8_first)] }
def CrewBackSaid : Prop := crewBackRow.holds Tryd.pinned (OpenSpec.ofChange crewBackSpec)

/-- ITS FALSE NEIGHBOUR: 'it returns false'. Refute it at one input. -/
def crewBackWrong : ChangeSpec := { name := "crewBack", fn := fun _ => fun
  | [d1, d2] => { results := [.lit (.bool false)], args := [d1, d2] }
  | _ => none }
def CrewBackWrongFalsely : Prop := crewBackRow.holds Tryd.pinned (OpenSpec.ofChange crewBackWrong)

/- THE SECOND FORM. 'bulk': how many values and letters a reading holds, each counted each time it is reached (what is shared counts as often as it is met; a slice's spare places count too). A statement '..UptoSaid' is the law's where the arguments, and the package variables that the reading takes, are together of bulk at most 1048576: NARROWER than '..Said'. Prove '..Said' where nothing that the law and all that it calls make is longer than what came in: it says more and counts as full. Else prove '..UptoSaid'. A law counts once. -/
mutual
def uptoBulk {H : Type} : DataW H → Nat
  | .lit (.string bytes) => bytes.length + 1
  | .lit _ => 1
  | .nil => 1
  | .ptr d => uptoBulk d + 1
  | .slice elems spare => uptoBulkAll elems + uptoBulkAll spare + 1
  | .agg parts => uptoBulkAll parts + 1
  | .iface _ d => uptoBulk d + 1
  | .map entries => uptoBulkEntries entries + 1
  | .held _ => 1
def uptoBulkAll {H : Type} : List (DataW H) → Nat
  | [] => 0
  | d :: r => uptoBulk d + uptoBulkAll r
def uptoBulkEntries {H : Type} : List (Lit × DataW H) → Nat
  | [] => 0
  | x :: r => uptoBulkEntry x + uptoBulkEntries r
def uptoBulkEntry {H : Type} : Lit × DataW H → Nat
  | (.string bytes, d) => bytes.length + uptoBulk d + 1
  | (_, d) => uptoBulk d + 1
 end
def uptoSmall : (H : Type) → List (DataW H) → Bool := fun _ ds => decide (uptoBulkAll ds ≤ 1048576)
def OpenSpec.upto (s : _root_.Go.ChangeSpec) : _root_.Go.OpenSpec := { _root_.Go.OpenSpec.ofChange s with cond := some uptoSmall }

/-- 'dewpondlaw27.CrewEach', WHERE WHAT IT READS IS OF BULK AT MOST 1048576: true; the input reads as it did. -/
def crewEachUptoRow : OpenClaim := { program := "ytlnbglpddpgooaadoor", sum := "a193f3dcea44ee53287fa40634eea7eb28e84da0e03bf3e916857c01d37b68a1", func := "dewpond/dewpondlaw27.CrewEach", spec := "crewEach", inPlace := ["internal/abi.NoEscape", "internal/bytealg.MakeNoZero"], unfollowed := true, recurses := true, named := ["math/bits.deBruijn64tab"], apart := false, laid := [("math/bits.deBruijn64tab", laid_math_bits_deBruijn64tab)], narrowed := true }
def CrewEachUptoSaid : Prop := crewEachUptoRow.holds Tryd.pinned (OpenSpec.upto crewEachSpec)

/-- 'dewpondlaw27.CrewMoves', WHERE WHAT IT READS IS OF BULK AT MOST 1048576: true; the input reads as it did. -/
def crewMovesUptoRow : OpenClaim := { program := "ytlnbglpddpgooaadoor", sum := "a193f3dcea44ee53287fa40634eea7eb28e84da0e03bf3e916857c01d37b68a1", func := "dewpond/dewpondlaw27.CrewMoves", spec := "crewMoves", inPlace := ["internal/abi.NoEscape", "internal/bytealg.MakeNoZero"], unfollowed := true, recurses := true, named := ["math/bits.deBruijn64tab"], apart := false, laid := [("math/bits.deBruijn64tab", laid_math_bits_deBruijn64tab)], narrowed := true }
def CrewMovesUptoSaid : Prop := crewMovesUptoRow.holds Tryd.pinned (OpenSpec.upto crewMovesSpec)

/-- 'dewpondlaw27.CrewMakes', WHERE WHAT IT READS IS OF BULK AT MOST 1048576: true; the input reads as it did. -/
def crewMakesUptoRow : OpenClaim := { program := "ytlnbglpddpgooaadoor", sum := "a193f3dcea44ee53287fa40634eea7eb28e84da0e03bf3e916857c01d37b68a1", func := "dewpond/dewpondlaw27.CrewMakes", spec := "crewMakes", inPlace := ["internal/abi.NoEscape", "internal/bytealg.MakeNoZero"], unfollowed := true, recurses := true, named := ["math/bits.deBruijn64tab"], apart := false, laid := [("math/bits.deBruijn64tab", laid_math_bits_deBruijn64tab)], narrowed := true }
def CrewMakesUptoSaid : Prop := crewMakesUptoRow.holds Tryd.pinned (OpenSpec.upto crewMakesSpec)

/-- 'dewpondlaw27.CrewTexts', WHERE WHAT IT READS IS OF BULK AT MOST 1048576: true; the input reads as it did. -/
def crewTextsUptoRow : OpenClaim := { program := "ytlnbglpddpgooaadoor", sum := "a193f3dcea44ee53287fa40634eea7eb28e84da0e03bf3e916857c01d37b68a1", func := "dewpond/dewpondlaw27.CrewTexts", spec := "crewTexts", inPlace := ["internal/abi.NoEscape", "internal/bytealg.MakeNoZero", "internal/bytealg.IndexByteString", "internal/bytealg.IndexString"], unfollowed := true, recurses := true, named := ["math/bits.deBruijn64tab", "unicode/utf8.first", "unicode/utf8.acceptRanges", "internal/bytealg.MaxLen"], apart := false, laid := [("math/bits.deBruijn64tab", laid_math_bits_deBruijn64tab), ("unicode/utf8.acceptRanges", laid_unicode_utf8_acceptRanges), ("unicode/utf8.first", laid_unicode_utf8_first)], narrowed := true }
def CrewTextsUptoSaid : Prop := crewTextsUptoRow.holds Tryd.pinned (OpenSpec.upto crewTextsSpec)

/-- 'dewpondlaw27.CrewBack', WHERE WHAT IT READS IS OF BULK AT MOST 1048576: true; the input reads as it did. -/
def crewBackUptoRow : OpenClaim := { program := "ytlnbglpddpgooaadoor", sum := "a193f3dcea44ee53287fa40634eea7eb28e84da0e03bf3e916857c01d37b68a1", func := "dewpond/dewpondlaw27.CrewBack", spec := "crewBack", inPlace := ["internal/abi.NoEscape", "internal/bytealg.MakeNoZero", "internal/bytealg.IndexByteString", "internal/bytealg.IndexString"], unfollowed := true, recurses := true, named := ["math/bits.deBruijn64tab", "unicode/utf8.first", "unicode/utf8.acceptRanges", "internal/bytealg.MaxLen"], apart := false, laid := [("math/bits.deBruijn64tab", laid_math_bits_deBruijn64tab), ("unicode/utf8.acceptRanges", laid_unicode_utf8_acceptRanges), ("unicode/utf8.first", laid_unicode_utf8_first)], narrowed := true }
def CrewBackUptoSaid : Prop := crewBackUptoRow.holds Tryd.pinned (OpenSpec.upto crewBackSpec)

end Rows
end Go.Proofs.YtlnbglpddpgooaaDoor

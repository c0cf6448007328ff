/-
  NARROWER THAN 'FOR EVERY INPUT', by the rows' own cells (each row's printed sentence says how): GroveHangs: laid · GroveTells: laid · GroveSets: laid · GroveLaws: laid · LineParses: laid · LineRemarks: laid · LinePrints: laid · LineBack: laid.
  DERIVED. THE GIVEN ROWS OF THIS SEAT. 8 by the template 'for every input the law returns true; each argument reads behind the call as it read before'; 0 by the template 'total and deterministic' (their statements: YtcpakoobgcdekaaDoorTotals.lean).
  GIVEN WITH THE SEED: the statements are not yours to turn. If you find one false, say at which input.
  Laid BY PROGRAM, IN A SANDBOX (cutbox-rows.mjs): the forced cells as the released guide's own fill.sh prints them over the translation b1a49404d473aeee… (all of the seat's roots in one cut). By AI agents, Wed Nov 11 2026. No macro, syntax, notation, axiom, sorry.
-/
import Derived.Test.YtcpakoobgcdekaaDoorChecked
import GoSem.PinnedTables
import GoSem.Claim
import GoSem.ClaimJoined
import GoSem.ClaimMapViews
import Derived.JoinedTies
import Derived.KernelRfl
namespace Go.Proofs.YtcpakoobgcdekaaDoor
/- THE CELL 'sum', in the pinned program and in every row, IS THE sha256 OF THE DUMP (.gsa) THAT YtcpakoobgcdekaaDoorProg.lean LOADS. Nothing in Lean hashes anything: it is a label: what it is worth is what the hold of that sum in a sandbox is worth. -/
noncomputable def Tryd.pinned : Pinned := { name := "ytcpakoobgcdekaadoor", sum := "b1a49404d473aeee22d04d195f2751abf5fa64fcbd56fc53f89f5e1a0d70cff1", checked := Tryd.checked }
namespace Rows
def none {H : Type} : Left H := { results := [], args := [] }

/- WHAT THE LISTED PACKAGE-LEVEL VARIABLES READ AS WHEN THE CALL BEGINS. Each datum BY PROGRAM (the guide's laid-datum.mjs) off the statement by which the dump's own 'gosem.cut.vars' lays the variable. In a bare row this is a premise. The card (YtcpakoobgcdekaaDoorCards.lean) ties it to the program's text. -/
def laid_math_bits_deBruijn64tab {H : Type} : DataW H := .agg [.lit (.int .u8 0), .lit (.int .u8 1), .lit (.int .u8 56), .lit (.int .u8 2), .lit (.int .u8 57), .lit (.int .u8 49), .lit (.int .u8 28), .lit (.int .u8 3), .lit (.int .u8 61), .lit (.int .u8 58), .lit (.int .u8 42), .lit (.int .u8 50), .lit (.int .u8 38), .lit (.int .u8 29), .lit (.int .u8 17), .lit (.int .u8 4), .lit (.int .u8 62), .lit (.int .u8 47), .lit (.int .u8 59), .lit (.int .u8 36), .lit (.int .u8 45), .lit (.int .u8 43), .lit (.int .u8 51), .lit (.int .u8 22), .lit (.int .u8 53), .lit (.int .u8 39), .lit (.int .u8 33), .lit (.int .u8 30), .lit (.int .u8 24), .lit (.int .u8 18), .lit (.int .u8 12), .lit (.int .u8 5), .lit (.int .u8 63), .lit (.int .u8 55), .lit (.int .u8 48), .lit (.int .u8 27), .lit (.int .u8 60), .lit (.int .u8 41), .lit (.int .u8 37), .lit (.int .u8 16), .lit (.int .u8 46), .lit (.int .u8 35), .lit (.int .u8 44), .lit (.int .u8 21), .lit (.int .u8 52), .lit (.int .u8 32), .lit (.int .u8 23), .lit (.int .u8 11), .lit (.int .u8 54), .lit (.int .u8 26), .lit (.int .u8 40), .lit (.int .u8 15), .lit (.int .u8 34), .lit (.int .u8 20), .lit (.int .u8 31), .lit (.int .u8 10), .lit (.int .u8 25), .lit (.int .u8 14), .lit (.int .u8 19), .lit (.int .u8 9), .lit (.int .u8 13), .lit (.int .u8 8), .lit (.int .u8 7), .lit (.int .u8 6)]
def laid_unicode_utf8_acceptRanges {H : Type} : DataW H := .agg [.agg [.lit (.int .u8 128), .lit (.int .u8 191)], .agg [.lit (.int .u8 160), .lit (.int .u8 191)], .agg [.lit (.int .u8 128), .lit (.int .u8 159)], .agg [.lit (.int .u8 144), .lit (.int .u8 191)], .agg [.lit (.int .u8 128), .lit (.int .u8 143)], .agg [.lit (.int .u8 0), .lit (.int .u8 0)], .agg [.lit (.int .u8 0), .lit (.int .u8 0)], .agg [.lit (.int .u8 0), .lit (.int .u8 0)], .agg [.lit (.int .u8 0), .lit (.int .u8 0)], .agg [.lit (.int .u8 0), .lit (.int .u8 0)], .agg [.lit (.int .u8 0), .lit (.int .u8 0)], .agg [.lit (.int .u8 0), .lit (.int .u8 0)], .agg [.lit (.int .u8 0), .lit (.int .u8 0)], .agg [.lit (.int .u8 0), .lit (.int .u8 0)], .agg [.lit (.int .u8 0), .lit (.int .u8 0)], .agg [.lit (.int .u8 0), .lit (.int .u8 0)]]
def laid_dewpond_line_words {H : Type} : DataW H := .agg [.lit (.string []), .lit (.string [110, 101, 119]), .lit (.string [97, 100, 100]), .lit (.string [112, 114, 101, 115, 115]), .lit (.string [114, 97, 110, 107]), .lit (.string [113, 117, 97, 110, 116]), .lit (.string [98, 101, 116, 119, 101, 101, 110]), .lit (.string [98, 105, 110, 115]), .lit (.string [109, 101, 114, 103, 101]), .lit (.string [99, 111, 112, 121]), .lit (.string [103, 114, 111, 119]), .lit (.string [99, 111, 97, 114, 115, 101, 110]), .lit (.string [116, 117, 114, 110]), .lit (.string [108, 111, 119, 101, 114]), .lit (.string [100, 114, 111, 112]), .lit (.string [115, 104, 111, 119]), .lit (.string [110, 97, 109, 101, 115]), .lit (.string [109, 101, 97, 110]), .lit (.string [103, 97, 112])]
/-- One of Go's own tables, pinned by name: the form's constant. -/
def laid_unicode_utf8_first : DataW Unit := Go.Pinned.utf8First

/-- 'dewpondlaw28.GroveHangs': WHATEVER THE INPUT: true; the input reads as it did. -/
def groveHangsSpec : ChangeSpec := { name := "groveHangs", fn := fun _ => fun
  | [d1, d2, d3] => { results := [.lit (.bool true)], args := [d1, d2, d3] }
  | _ => none }
def groveHangsRow : OpenClaim := { program := "ytcpakoobgcdekaadoor", sum := "b1a49404d473aeee22d04d195f2751abf5fa64fcbd56fc53f89f5e1a0d70cff1", func := "dewpond/dewpondlaw28.GroveHangs", spec := "groveHangs", unfollowed := true, recurses := true, named := ["math/bits.deBruijn64tab"], apart := false, laid := [("math/bits.deBruijn64tab", laid_math_bits_deBruijn64tab)] }
def GroveHangsSaid : Prop := groveHangsRow.holds Tryd.pinned (OpenSpec.ofChange groveHangsSpec)

/-- ITS FALSE NEIGHBOUR: 'it returns false'. Refute it at one input. -/
def groveHangsWrong : ChangeSpec := { name := "groveHangs", fn := fun _ => fun
  | [d1, d2, d3] => { results := [.lit (.bool false)], args := [d1, d2, d3] }
  | _ => none }
def GroveHangsWrongFalsely : Prop := groveHangsRow.holds Tryd.pinned (OpenSpec.ofChange groveHangsWrong)

/-- 'dewpondlaw28.GroveTells': WHATEVER THE INPUT: true; the input reads as it did. -/
def groveTellsSpec : ChangeSpec := { name := "groveTells", fn := fun _ => fun
  | [d] => { results := [.lit (.bool true)], args := [d] }
  | _ => none }
def groveTellsRow : OpenClaim := { program := "ytcpakoobgcdekaadoor", sum := "b1a49404d473aeee22d04d195f2751abf5fa64fcbd56fc53f89f5e1a0d70cff1", func := "dewpond/dewpondlaw28.GroveTells", spec := "groveTells", unfollowed := true, recurses := true, named := ["math/bits.deBruijn64tab"], apart := false, laid := [("math/bits.deBruijn64tab", laid_math_bits_deBruijn64tab)] }
def GroveTellsSaid : Prop := groveTellsRow.holds Tryd.pinned (OpenSpec.ofChange groveTellsSpec)

/-- ITS FALSE NEIGHBOUR: 'it returns false'. Refute it at one input. -/
def groveTellsWrong : ChangeSpec := { name := "groveTells", fn := fun _ => fun
  | [d] => { results := [.lit (.bool false)], args := [d] }
  | _ => none }
def GroveTellsWrongFalsely : Prop := groveTellsRow.holds Tryd.pinned (OpenSpec.ofChange groveTellsWrong)

/-- 'dewpondlaw28.GroveSets': WHATEVER THE INPUT: true; the input reads as it did. -/
def groveSetsSpec : ChangeSpec := { name := "groveSets", fn := fun _ => fun
  | [d1, d2] => { results := [.lit (.bool true)], args := [d1, d2] }
  | _ => none }
def groveSetsRow : OpenClaim := { program := "ytcpakoobgcdekaadoor", sum := "b1a49404d473aeee22d04d195f2751abf5fa64fcbd56fc53f89f5e1a0d70cff1", func := "dewpond/dewpondlaw28.GroveSets", spec := "groveSets", unfollowed := true, recurses := true, named := ["math/bits.deBruijn64tab"], apart := false, laid := [("math/bits.deBruijn64tab", laid_math_bits_deBruijn64tab)] }
def GroveSetsSaid : Prop := groveSetsRow.holds Tryd.pinned (OpenSpec.ofChange groveSetsSpec)

/-- ITS FALSE NEIGHBOUR: 'it returns false'. Refute it at one input. -/
def groveSetsWrong : ChangeSpec := { name := "groveSets", fn := fun _ => fun
  | [d1, d2] => { results := [.lit (.bool false)], args := [d1, d2] }
  | _ => none }
def GroveSetsWrongFalsely : Prop := groveSetsRow.holds Tryd.pinned (OpenSpec.ofChange groveSetsWrong)

/-- 'dewpondlaw28.GroveLaws': WHATEVER THE INPUT: true; the input reads as it did. -/
def groveLawsSpec : ChangeSpec := { name := "groveLaws", fn := fun _ => fun
  | [d1, d2, d3] => { results := [.lit (.bool true)], args := [d1, d2, d3] }
  | _ => none }
def groveLawsRow : OpenClaim := { program := "ytcpakoobgcdekaadoor", sum := "b1a49404d473aeee22d04d195f2751abf5fa64fcbd56fc53f89f5e1a0d70cff1", func := "dewpond/dewpondlaw28.GroveLaws", spec := "groveLaws", unfollowed := true, recurses := true, named := ["math/bits.deBruijn64tab"], apart := false, laid := [("math/bits.deBruijn64tab", laid_math_bits_deBruijn64tab)] }
def GroveLawsSaid : Prop := groveLawsRow.holds Tryd.pinned (OpenSpec.ofChange groveLawsSpec)

/-- ITS FALSE NEIGHBOUR: 'it returns false'. Refute it at one input. -/
def groveLawsWrong : ChangeSpec := { name := "groveLaws", fn := fun _ => fun
  | [d1, d2, d3] => { results := [.lit (.bool false)], args := [d1, d2, d3] }
  | _ => none }
def GroveLawsWrongFalsely : Prop := groveLawsRow.holds Tryd.pinned (OpenSpec.ofChange groveLawsWrong)

/-- 'dewpondlaw35.LineParses': WHATEVER THE INPUT: true; the input reads as it did. -/
def lineParsesSpec : ChangeSpec := { name := "lineParses", fn := fun _ => fun
  | [d] => { results := [.lit (.bool true)], args := [d] }
  | _ => none }
def lineParsesRow : OpenClaim := { program := "ytcpakoobgcdekaadoor", sum := "b1a49404d473aeee22d04d195f2751abf5fa64fcbd56fc53f89f5e1a0d70cff1", func := "dewpond/dewpondlaw35.LineParses", spec := "lineParses", inPlace := ["internal/bytealg.CountString", "internal/bytealg.IndexByteString", "internal/bytealg.IndexString"], unfollowed := true, recurses := true, named := ["unicode/utf8.first", "unicode/utf8.acceptRanges", "internal/bytealg.MaxLen", "dewpond/line.words"], apart := false, laid := [("unicode/utf8.acceptRanges", laid_unicode_utf8_acceptRanges), ("dewpond/line.words", laid_dewpond_line_words), ("unicode/utf8.first", laid_unicode_utf8_first)] }
def LineParsesSaid : Prop := lineParsesRow.holds Tryd.pinned (OpenSpec.ofChange lineParsesSpec)

/-- ITS FALSE NEIGHBOUR: 'it returns false'. Refute it at one input. -/
def lineParsesWrong : ChangeSpec := { name := "lineParses", fn := fun _ => fun
  | [d] => { results := [.lit (.bool false)], args := [d] }
  | _ => none }
def LineParsesWrongFalsely : Prop := lineParsesRow.holds Tryd.pinned (OpenSpec.ofChange lineParsesWrong)

/-- 'dewpondlaw35.LineRemarks': WHATEVER THE INPUT: true; the input reads as it did. -/
def lineRemarksSpec : ChangeSpec := { name := "lineRemarks", fn := fun _ => fun
  | [d] => { results := [.lit (.bool true)], args := [d] }
  | _ => none }
def lineRemarksRow : OpenClaim := { program := "ytcpakoobgcdekaadoor", sum := "b1a49404d473aeee22d04d195f2751abf5fa64fcbd56fc53f89f5e1a0d70cff1", func := "dewpond/dewpondlaw35.LineRemarks", spec := "lineRemarks", inPlace := ["internal/bytealg.CountString", "internal/bytealg.IndexByteString", "internal/bytealg.IndexString"], unfollowed := true, recurses := true, named := ["unicode/utf8.first", "unicode/utf8.acceptRanges", "internal/bytealg.MaxLen", "dewpond/line.words"], apart := false, laid := [("unicode/utf8.acceptRanges", laid_unicode_utf8_acceptRanges), ("dewpond/line.words", laid_dewpond_line_words), ("unicode/utf8.first", laid_unicode_utf8_first)] }
def LineRemarksSaid : Prop := lineRemarksRow.holds Tryd.pinned (OpenSpec.ofChange lineRemarksSpec)

/-- ITS FALSE NEIGHBOUR: 'it returns false'. Refute it at one input. -/
def lineRemarksWrong : ChangeSpec := { name := "lineRemarks", fn := fun _ => fun
  | [d] => { results := [.lit (.bool false)], args := [d] }
  | _ => none }
def LineRemarksWrongFalsely : Prop := lineRemarksRow.holds Tryd.pinned (OpenSpec.ofChange lineRemarksWrong)

/-- 'dewpondlaw35.LinePrints': WHATEVER THE INPUT: true; the input reads as it did. -/
def linePrintsSpec : ChangeSpec := { name := "linePrints", fn := fun _ => fun
  | [d1, d2, d3] => { results := [.lit (.bool true)], args := [d1, d2, d3] }
  | _ => none }
def linePrintsRow : OpenClaim := { program := "ytcpakoobgcdekaadoor", sum := "b1a49404d473aeee22d04d195f2751abf5fa64fcbd56fc53f89f5e1a0d70cff1", func := "dewpond/dewpondlaw35.LinePrints", spec := "linePrints", inPlace := ["internal/bytealg.CountString", "internal/bytealg.IndexByteString", "internal/bytealg.IndexString", "internal/abi.NoEscape", "internal/bytealg.MakeNoZero"], unfollowed := true, recurses := true, named := ["unicode/utf8.first", "unicode/utf8.acceptRanges", "internal/bytealg.MaxLen", "dewpond/line.words"], apart := false, laid := [("unicode/utf8.acceptRanges", laid_unicode_utf8_acceptRanges), ("dewpond/line.words", laid_dewpond_line_words), ("unicode/utf8.first", laid_unicode_utf8_first)] }
def LinePrintsSaid : Prop := linePrintsRow.holds Tryd.pinned (OpenSpec.ofChange linePrintsSpec)

/-- ITS FALSE NEIGHBOUR: 'it returns false'. Refute it at one input. -/
def linePrintsWrong : ChangeSpec := { name := "linePrints", fn := fun _ => fun
  | [d1, d2, d3] => { results := [.lit (.bool false)], args := [d1, d2, d3] }
  | _ => none }
def LinePrintsWrongFalsely : Prop := linePrintsRow.holds Tryd.pinned (OpenSpec.ofChange linePrintsWrong)

/-- 'dewpondlaw35.LineBack': WHATEVER THE INPUT: true; the input reads as it did. -/
def lineBackSpec : ChangeSpec := { name := "lineBack", fn := fun _ => fun
  | [d1, d2, d3] => { results := [.lit (.bool true)], args := [d1, d2, d3] }
  | _ => none }
def lineBackRow : OpenClaim := { program := "ytcpakoobgcdekaadoor", sum := "b1a49404d473aeee22d04d195f2751abf5fa64fcbd56fc53f89f5e1a0d70cff1", func := "dewpond/dewpondlaw35.LineBack", spec := "lineBack", inPlace := ["internal/bytealg.CountString", "internal/bytealg.IndexByteString", "internal/bytealg.IndexString", "internal/abi.NoEscape", "internal/bytealg.MakeNoZero"], unfollowed := true, recurses := true, named := ["unicode/utf8.first", "unicode/utf8.acceptRanges", "internal/bytealg.MaxLen", "dewpond/line.words"], apart := false, laid := [("unicode/utf8.acceptRanges", laid_unicode_utf8_acceptRanges), ("dewpond/line.words", laid_dewpond_line_words), ("unicode/utf8.first", laid_unicode_utf8_first)] }
def LineBackSaid : Prop := lineBackRow.holds Tryd.pinned (OpenSpec.ofChange lineBackSpec)

/-- ITS FALSE NEIGHBOUR: 'it returns false'. Refute it at one input. -/
def lineBackWrong : ChangeSpec := { name := "lineBack", fn := fun _ => fun
  | [d1, d2, d3] => { results := [.lit (.bool false)], args := [d1, d2, d3] }
  | _ => none }
def LineBackWrongFalsely : Prop := lineBackRow.holds Tryd.pinned (OpenSpec.ofChange lineBackWrong)

/- THE SECOND FORM. 'bulk': how many values and letters a reading holds, each counted each time it is reached (what is shared counts as often as it is met; a slice's spare places count too). A statement '..UptoSaid' is the law's where the arguments, and the package variables that the reading takes, are together of bulk at most 1048576: NARROWER than '..Said'. Prove '..Said' where nothing that the law and all that it calls make is longer than what came in: it says more and counts as full. Else prove '..UptoSaid'. A law counts once. -/
mutual
def uptoBulk {H : Type} : DataW H → Nat
  | .lit (.string bytes) => bytes.length + 1
  | .lit _ => 1
  | .nil => 1
  | .ptr d => uptoBulk d + 1
  | .slice elems spare => uptoBulkAll elems + uptoBulkAll spare + 1
  | .agg parts => uptoBulkAll parts + 1
  | .iface _ d => uptoBulk d + 1
  | .map entries => uptoBulkEntries entries + 1
  | .held _ => 1
def uptoBulkAll {H : Type} : List (DataW H) → Nat
  | [] => 0
  | d :: r => uptoBulk d + uptoBulkAll r
def uptoBulkEntries {H : Type} : List (Lit × DataW H) → Nat
  | [] => 0
  | x :: r => uptoBulkEntry x + uptoBulkEntries r
def uptoBulkEntry {H : Type} : Lit × DataW H → Nat
  | (.string bytes, d) => bytes.length + uptoBulk d + 1
  | (_, d) => uptoBulk d + 1
 end
def uptoSmall : (H : Type) → List (DataW H) → Bool := fun _ ds => decide (uptoBulkAll ds ≤ 1048576)
def OpenSpec.upto (s : _root_.Go.ChangeSpec) : _root_.Go.OpenSpec := { _root_.Go.OpenSpec.ofChange s with cond := some uptoSmall }

/-- 'dewpondlaw28.GroveHangs', WHERE WHAT IT READS IS OF BULK AT MOST 1048576: true; the input reads as it did. -/
def groveHangsUptoRow : OpenClaim := { program := "ytcpakoobgcdekaadoor", sum := "b1a49404d473aeee22d04d195f2751abf5fa64fcbd56fc53f89f5e1a0d70cff1", func := "dewpond/dewpondlaw28.GroveHangs", spec := "groveHangs", unfollowed := true, recurses := true, named := ["math/bits.deBruijn64tab"], apart := false, laid := [("math/bits.deBruijn64tab", laid_math_bits_deBruijn64tab)], narrowed := true }
def GroveHangsUptoSaid : Prop := groveHangsUptoRow.holds Tryd.pinned (OpenSpec.upto groveHangsSpec)

/-- 'dewpondlaw28.GroveTells', WHERE WHAT IT READS IS OF BULK AT MOST 1048576: true; the input reads as it did. -/
def groveTellsUptoRow : OpenClaim := { program := "ytcpakoobgcdekaadoor", sum := "b1a49404d473aeee22d04d195f2751abf5fa64fcbd56fc53f89f5e1a0d70cff1", func := "dewpond/dewpondlaw28.GroveTells", spec := "groveTells", unfollowed := true, recurses := true, named := ["math/bits.deBruijn64tab"], apart := false, laid := [("math/bits.deBruijn64tab", laid_math_bits_deBruijn64tab)], narrowed := true }
def GroveTellsUptoSaid : Prop := groveTellsUptoRow.holds Tryd.pinned (OpenSpec.upto groveTellsSpec)

/-- 'dewpondlaw28.GroveSets', WHERE WHAT IT READS IS OF BULK AT MOST 1048576: true; the input reads as it did. -/
def groveSetsUptoRow : OpenClaim := { program := "ytcpakoobgcdekaadoor", sum := "b1a49404d473aeee22d04d195f2751abf5fa64fcbd56fc53f89f5e1a0d70cff1", func := "dewpond/dewpondlaw28.GroveSets", spec := "groveSets", unfollowed := true, recurses := true, named := ["math/bits.deBruijn64tab"], apart := false, laid := [("math/bits.deBruijn64tab", laid_math_bits_deBruijn64tab)], narrowed := true }
def GroveSetsUptoSaid : Prop := groveSetsUptoRow.holds Tryd.pinned (OpenSpec.upto groveSetsSpec)

/-- 'dewpondlaw28.GroveLaws', WHERE WHAT IT READS IS OF BULK AT MOST 1048576: true; the input reads as it did. -/
def groveLawsUptoRow : OpenClaim := { program := "ytcpakoobgcdekaadoor", sum := "b1a49404d473aeee22d04d195f2751abf5fa64fcbd56fc53f89f5e1a0d70cff1", func := "dewpond/dewpondlaw28.GroveLaws", spec := "groveLaws", unfollowed := true, recurses := true, named := ["math/bits.deBruijn64tab"], apart := false, laid := [("math/bits.deBruijn64tab", laid_math_bits_deBruijn64tab)], narrowed := true }
def GroveLawsUptoSaid : Prop := groveLawsUptoRow.holds Tryd.pinned (OpenSpec.upto groveLawsSpec)

/-- 'dewpondlaw35.LineParses', WHERE WHAT IT READS IS OF BULK AT MOST 1048576: true; the input reads as it did. -/
def lineParsesUptoRow : OpenClaim := { program := "ytcpakoobgcdekaadoor", sum := "b1a49404d473aeee22d04d195f2751abf5fa64fcbd56fc53f89f5e1a0d70cff1", func := "dewpond/dewpondlaw35.LineParses", spec := "lineParses", inPlace := ["internal/bytealg.CountString", "internal/bytealg.IndexByteString", "internal/bytealg.IndexString"], unfollowed := true, recurses := true, named := ["unicode/utf8.first", "unicode/utf8.acceptRanges", "internal/bytealg.MaxLen", "dewpond/line.words"], apart := false, laid := [("unicode/utf8.acceptRanges", laid_unicode_utf8_acceptRanges), ("dewpond/line.words", laid_dewpond_line_words), ("unicode/utf8.first", laid_unicode_utf8_first)], narrowed := true }
def LineParsesUptoSaid : Prop := lineParsesUptoRow.holds Tryd.pinned (OpenSpec.upto lineParsesSpec)

/-- 'dewpondlaw35.LineRemarks', WHERE WHAT IT READS IS OF BULK AT MOST 1048576: true; the input reads as it did. -/
def lineRemarksUptoRow : OpenClaim := { program := "ytcpakoobgcdekaadoor", sum := "b1a49404d473aeee22d04d195f2751abf5fa64fcbd56fc53f89f5e1a0d70cff1", func := "dewpond/dewpondlaw35.LineRemarks", spec := "lineRemarks", inPlace := ["internal/bytealg.CountString", "internal/bytealg.IndexByteString", "internal/bytealg.IndexString"], unfollowed := true, recurses := true, named := ["unicode/utf8.first", "unicode/utf8.acceptRanges", "internal/bytealg.MaxLen", "dewpond/line.words"], apart := false, laid := [("unicode/utf8.acceptRanges", laid_unicode_utf8_acceptRanges), ("dewpond/line.words", laid_dewpond_line_words), ("unicode/utf8.first", laid_unicode_utf8_first)], narrowed := true }
def LineRemarksUptoSaid : Prop := lineRemarksUptoRow.holds Tryd.pinned (OpenSpec.upto lineRemarksSpec)

/-- 'dewpondlaw35.LinePrints', WHERE WHAT IT READS IS OF BULK AT MOST 1048576: true; the input reads as it did. -/
def linePrintsUptoRow : OpenClaim := { program := "ytcpakoobgcdekaadoor", sum := "b1a49404d473aeee22d04d195f2751abf5fa64fcbd56fc53f89f5e1a0d70cff1", func := "dewpond/dewpondlaw35.LinePrints", spec := "linePrints", inPlace := ["internal/bytealg.CountString", "internal/bytealg.IndexByteString", "internal/bytealg.IndexString", "internal/abi.NoEscape", "internal/bytealg.MakeNoZero"], unfollowed := true, recurses := true, named := ["unicode/utf8.first", "unicode/utf8.acceptRanges", "internal/bytealg.MaxLen", "dewpond/line.words"], apart := false, laid := [("unicode/utf8.acceptRanges", laid_unicode_utf8_acceptRanges), ("dewpond/line.words", laid_dewpond_line_words), ("unicode/utf8.first", laid_unicode_utf8_first)], narrowed := true }
def LinePrintsUptoSaid : Prop := linePrintsUptoRow.holds Tryd.pinned (OpenSpec.upto linePrintsSpec)

/-- 'dewpondlaw35.LineBack', WHERE WHAT IT READS IS OF BULK AT MOST 1048576: true; the input reads as it did. -/
def lineBackUptoRow : OpenClaim := { program := "ytcpakoobgcdekaadoor", sum := "b1a49404d473aeee22d04d195f2751abf5fa64fcbd56fc53f89f5e1a0d70cff1", func := "dewpond/dewpondlaw35.LineBack", spec := "lineBack", inPlace := ["internal/bytealg.CountString", "internal/bytealg.IndexByteString", "internal/bytealg.IndexString", "internal/abi.NoEscape", "internal/bytealg.MakeNoZero"], unfollowed := true, recurses := true, named := ["unicode/utf8.first", "unicode/utf8.acceptRanges", "internal/bytealg.MaxLen", "dewpond/line.words"], apart := false, laid := [("unicode/utf8.acceptRanges", laid_unicode_utf8_acceptRanges), ("dewpond/line.words", laid_dewpond_line_words), ("unicode/utf8.first", laid_unicode_utf8_first)], narrowed := true }
def LineBackUptoSaid : Prop := lineBackUptoRow.holds Tryd.pinned (OpenSpec.upto lineBackSpec)

end Rows
end Go.Proofs.YtcpakoobgcdekaaDoor

/-
  No cell of these rows narrows 'for every input' (looked for: loops, veiled, ifaces, maps, wideKeys, modest, calm, conditions, laid).
  DERIVED. THE GIVEN ROWS OF THIS SEAT. 12 by the template 'for every input the law returns true; each argument reads behind the call as it read before'; 0 by the template 'total and deterministic' (their statements: YtclndbaafibaiaaTotals.lean).
  GIVEN WITH THE SEED: the statements are not yours to turn. If you find one false, say at which input.
  Laid BY PROGRAM, IN A SANDBOX (cutbox-rows.mjs): the forced cells as the released guide's own fill.sh prints them over the translation 6a9899a1e52e6611… (all of the seat's roots in one cut). By AI agents, Wed Nov 11 2026. No macro, syntax, notation, axiom, sorry.
-/
import Derived.Test.YtclndbaafibaiaaChecked
import GoSem.Claim
import GoSem.ClaimJoined
import GoSem.ClaimMapViews
import Derived.JoinedTies
import Derived.KernelRfl
namespace Go.Proofs.Ytclndbaafibaiaa
/- THE CELL 'sum', in the pinned program and in every row, IS THE sha256 OF THE DUMP (.gsa) THAT YtclndbaafibaiaaProg.lean LOADS. Nothing in Lean hashes anything: it is a label: what it is worth is what the hold of that sum in a sandbox is worth. -/
noncomputable def Try.pinned : Pinned := { name := "ytclndbaafibaiaa", sum := "6a9899a1e52e66113f3895e1a9cbd384c7f6c8f73f951a3bd82ac98e59cc1cfd", checked := Try.checked }
namespace Rows
def none {H : Type} : Left H := { results := [], args := [] }

/-- 'dewpondlaw23.SealSums': WHATEVER THE INPUT: true; the input reads as it did. -/
def sealSumsSpec : ChangeSpec := { name := "sealSums", fn := fun _ => fun
  | [d] => { results := [.lit (.bool true)], args := [d] }
  | _ => none }
def sealSumsRow : OpenClaim := { program := "ytclndbaafibaiaa", sum := "6a9899a1e52e66113f3895e1a9cbd384c7f6c8f73f951a3bd82ac98e59cc1cfd", func := "dewpond/dewpondlaw23.SealSums", spec := "sealSums", apart := false }
def SealSumsSaid : Prop := sealSumsRow.holds Try.pinned (OpenSpec.ofChange sealSumsSpec)

/-- ITS FALSE NEIGHBOUR: 'it returns false'. Refute it at one input. -/
def sealSumsWrong : ChangeSpec := { name := "sealSums", fn := fun _ => fun
  | [d] => { results := [.lit (.bool false)], args := [d] }
  | _ => none }
def SealSumsWrongFalsely : Prop := sealSumsRow.holds Try.pinned (OpenSpec.ofChange sealSumsWrong)

/-- 'dewpondlaw23.SealJoins': WHATEVER THE INPUT: true; the input reads as it did. -/
def sealJoinsSpec : ChangeSpec := { name := "sealJoins", fn := fun _ => fun
  | [d1, d2] => { results := [.lit (.bool true)], args := [d1, d2] }
  | _ => none }
def sealJoinsRow : OpenClaim := { program := "ytclndbaafibaiaa", sum := "6a9899a1e52e66113f3895e1a9cbd384c7f6c8f73f951a3bd82ac98e59cc1cfd", func := "dewpond/dewpondlaw23.SealJoins", spec := "sealJoins", apart := false }
def SealJoinsSaid : Prop := sealJoinsRow.holds Try.pinned (OpenSpec.ofChange sealJoinsSpec)

/-- ITS FALSE NEIGHBOUR: 'it returns false'. Refute it at one input. -/
def sealJoinsWrong : ChangeSpec := { name := "sealJoins", fn := fun _ => fun
  | [d1, d2] => { results := [.lit (.bool false)], args := [d1, d2] }
  | _ => none }
def SealJoinsWrongFalsely : Prop := sealJoinsRow.holds Try.pinned (OpenSpec.ofChange sealJoinsWrong)

/-- 'dewpondlaw23.SealOpens': WHATEVER THE INPUT: true; the input reads as it did. -/
def sealOpensSpec : ChangeSpec := { name := "sealOpens", fn := fun _ => fun
  | [d] => { results := [.lit (.bool true)], args := [d] }
  | _ => none }
def sealOpensRow : OpenClaim := { program := "ytclndbaafibaiaa", sum := "6a9899a1e52e66113f3895e1a9cbd384c7f6c8f73f951a3bd82ac98e59cc1cfd", func := "dewpond/dewpondlaw23.SealOpens", spec := "sealOpens", apart := false }
def SealOpensSaid : Prop := sealOpensRow.holds Try.pinned (OpenSpec.ofChange sealOpensSpec)

/-- ITS FALSE NEIGHBOUR: 'it returns false'. Refute it at one input. -/
def sealOpensWrong : ChangeSpec := { name := "sealOpens", fn := fun _ => fun
  | [d] => { results := [.lit (.bool false)], args := [d] }
  | _ => none }
def SealOpensWrongFalsely : Prop := sealOpensRow.holds Try.pinned (OpenSpec.ofChange sealOpensWrong)

/-- 'dewpondlaw23.SealTells': WHATEVER THE INPUT: true; the input reads as it did. -/
def sealTellsSpec : ChangeSpec := { name := "sealTells", fn := fun _ => fun
  | [d1, d2, d3] => { results := [.lit (.bool true)], args := [d1, d2, d3] }
  | _ => none }
def sealTellsRow : OpenClaim := { program := "ytclndbaafibaiaa", sum := "6a9899a1e52e66113f3895e1a9cbd384c7f6c8f73f951a3bd82ac98e59cc1cfd", func := "dewpond/dewpondlaw23.SealTells", spec := "sealTells", apart := false }
def SealTellsSaid : Prop := sealTellsRow.holds Try.pinned (OpenSpec.ofChange sealTellsSpec)

/-- ITS FALSE NEIGHBOUR: 'it returns false'. Refute it at one input. -/
def sealTellsWrong : ChangeSpec := { name := "sealTells", fn := fun _ => fun
  | [d1, d2, d3] => { results := [.lit (.bool false)], args := [d1, d2, d3] }
  | _ => none }
def SealTellsWrongFalsely : Prop := sealTellsRow.holds Try.pinned (OpenSpec.ofChange sealTellsWrong)

/-- 'dewpondlaw22.VaryPuts': WHATEVER THE INPUT: true; the input reads as it did. -/
def varyPutsSpec : ChangeSpec := { name := "varyPuts", fn := fun _ => fun
  | [d1, d2] => { results := [.lit (.bool true)], args := [d1, d2] }
  | _ => none }
def varyPutsRow : OpenClaim := { program := "ytclndbaafibaiaa", sum := "6a9899a1e52e66113f3895e1a9cbd384c7f6c8f73f951a3bd82ac98e59cc1cfd", func := "dewpond/dewpondlaw22.VaryPuts", spec := "varyPuts", apart := false }
def VaryPutsSaid : Prop := varyPutsRow.holds Try.pinned (OpenSpec.ofChange varyPutsSpec)

/-- ITS FALSE NEIGHBOUR: 'it returns false'. Refute it at one input. -/
def varyPutsWrong : ChangeSpec := { name := "varyPuts", fn := fun _ => fun
  | [d1, d2] => { results := [.lit (.bool false)], args := [d1, d2] }
  | _ => none }
def VaryPutsWrongFalsely : Prop := varyPutsRow.holds Try.pinned (OpenSpec.ofChange varyPutsWrong)

/-- 'dewpondlaw22.VaryGets': WHATEVER THE INPUT: true; the input reads as it did. -/
def varyGetsSpec : ChangeSpec := { name := "varyGets", fn := fun _ => fun
  | [d] => { results := [.lit (.bool true)], args := [d] }
  | _ => none }
def varyGetsRow : OpenClaim := { program := "ytclndbaafibaiaa", sum := "6a9899a1e52e66113f3895e1a9cbd384c7f6c8f73f951a3bd82ac98e59cc1cfd", func := "dewpond/dewpondlaw22.VaryGets", spec := "varyGets", apart := false }
def VaryGetsSaid : Prop := varyGetsRow.holds Try.pinned (OpenSpec.ofChange varyGetsSpec)

/-- ITS FALSE NEIGHBOUR: 'it returns false'. Refute it at one input. -/
def varyGetsWrong : ChangeSpec := { name := "varyGets", fn := fun _ => fun
  | [d] => { results := [.lit (.bool false)], args := [d] }
  | _ => none }
def VaryGetsWrongFalsely : Prop := varyGetsRow.holds Try.pinned (OpenSpec.ofChange varyGetsWrong)

/-- 'dewpondlaw22.VaryRises': WHATEVER THE INPUT: true; the input reads as it did. -/
def varyRisesSpec : ChangeSpec := { name := "varyRises", fn := fun _ => fun
  | [d1, d2, d3] => { results := [.lit (.bool true)], args := [d1, d2, d3] }
  | _ => none }
def varyRisesRow : OpenClaim := { program := "ytclndbaafibaiaa", sum := "6a9899a1e52e66113f3895e1a9cbd384c7f6c8f73f951a3bd82ac98e59cc1cfd", func := "dewpond/dewpondlaw22.VaryRises", spec := "varyRises", apart := false }
def VaryRisesSaid : Prop := varyRisesRow.holds Try.pinned (OpenSpec.ofChange varyRisesSpec)

/-- ITS FALSE NEIGHBOUR: 'it returns false'. Refute it at one input. -/
def varyRisesWrong : ChangeSpec := { name := "varyRises", fn := fun _ => fun
  | [d1, d2, d3] => { results := [.lit (.bool false)], args := [d1, d2, d3] }
  | _ => none }
def VaryRisesWrongFalsely : Prop := varyRisesRow.holds Try.pinned (OpenSpec.ofChange varyRisesWrong)

/-- 'dewpondlaw22.VaryBack': WHATEVER THE INPUT: true; the input reads as it did. -/
def varyBackSpec : ChangeSpec := { name := "varyBack", fn := fun _ => fun
  | [d1, d2] => { results := [.lit (.bool true)], args := [d1, d2] }
  | _ => none }
def varyBackRow : OpenClaim := { program := "ytclndbaafibaiaa", sum := "6a9899a1e52e66113f3895e1a9cbd384c7f6c8f73f951a3bd82ac98e59cc1cfd", func := "dewpond/dewpondlaw22.VaryBack", spec := "varyBack", apart := false }
def VaryBackSaid : Prop := varyBackRow.holds Try.pinned (OpenSpec.ofChange varyBackSpec)

/-- ITS FALSE NEIGHBOUR: 'it returns false'. Refute it at one input. -/
def varyBackWrong : ChangeSpec := { name := "varyBack", fn := fun _ => fun
  | [d1, d2] => { results := [.lit (.bool false)], args := [d1, d2] }
  | _ => none }
def VaryBackWrongFalsely : Prop := varyBackRow.holds Try.pinned (OpenSpec.ofChange varyBackWrong)

/-- 'dewpondlaw29.LetterWrites': WHATEVER THE INPUT: true; the input reads as it did. -/
def letterWritesSpec : ChangeSpec := { name := "letterWrites", fn := fun _ => fun
  | [d] => { results := [.lit (.bool true)], args := [d] }
  | _ => none }
def letterWritesRow : OpenClaim := { program := "ytclndbaafibaiaa", sum := "6a9899a1e52e66113f3895e1a9cbd384c7f6c8f73f951a3bd82ac98e59cc1cfd", func := "dewpond/dewpondlaw29.LetterWrites", spec := "letterWrites", apart := false }
def LetterWritesSaid : Prop := letterWritesRow.holds Try.pinned (OpenSpec.ofChange letterWritesSpec)

/-- ITS FALSE NEIGHBOUR: 'it returns false'. Refute it at one input. -/
def letterWritesWrong : ChangeSpec := { name := "letterWrites", fn := fun _ => fun
  | [d] => { results := [.lit (.bool false)], args := [d] }
  | _ => none }
def LetterWritesWrongFalsely : Prop := letterWritesRow.holds Try.pinned (OpenSpec.ofChange letterWritesWrong)

/-- 'dewpondlaw29.LetterReads': WHATEVER THE INPUT: true; the input reads as it did. -/
def letterReadsSpec : ChangeSpec := { name := "letterReads", fn := fun _ => fun
  | [d] => { results := [.lit (.bool true)], args := [d] }
  | _ => none }
def letterReadsRow : OpenClaim := { program := "ytclndbaafibaiaa", sum := "6a9899a1e52e66113f3895e1a9cbd384c7f6c8f73f951a3bd82ac98e59cc1cfd", func := "dewpond/dewpondlaw29.LetterReads", spec := "letterReads", unfollowed := true, recurses := true, apart := false }
def LetterReadsSaid : Prop := letterReadsRow.holds Try.pinned (OpenSpec.ofChange letterReadsSpec)

/-- ITS FALSE NEIGHBOUR: 'it returns false'. Refute it at one input. -/
def letterReadsWrong : ChangeSpec := { name := "letterReads", fn := fun _ => fun
  | [d] => { results := [.lit (.bool false)], args := [d] }
  | _ => none }
def LetterReadsWrongFalsely : Prop := letterReadsRow.holds Try.pinned (OpenSpec.ofChange letterReadsWrong)

/-- 'dewpondlaw29.LetterBack': WHATEVER THE INPUT: true; the input reads as it did. -/
def letterBackSpec : ChangeSpec := { name := "letterBack", fn := fun _ => fun
  | [d1, d2, d3] => { results := [.lit (.bool true)], args := [d1, d2, d3] }
  | _ => none }
def letterBackRow : OpenClaim := { program := "ytclndbaafibaiaa", sum := "6a9899a1e52e66113f3895e1a9cbd384c7f6c8f73f951a3bd82ac98e59cc1cfd", func := "dewpond/dewpondlaw29.LetterBack", spec := "letterBack", unfollowed := true, recurses := true, apart := false }
def LetterBackSaid : Prop := letterBackRow.holds Try.pinned (OpenSpec.ofChange letterBackSpec)

/-- ITS FALSE NEIGHBOUR: 'it returns false'. Refute it at one input. -/
def letterBackWrong : ChangeSpec := { name := "letterBack", fn := fun _ => fun
  | [d1, d2, d3] => { results := [.lit (.bool false)], args := [d1, d2, d3] }
  | _ => none }
def LetterBackWrongFalsely : Prop := letterBackRow.holds Try.pinned (OpenSpec.ofChange letterBackWrong)

/-- 'dewpondlaw29.LetterLong': WHATEVER THE INPUT: true; the input reads as it did. -/
def letterLongSpec : ChangeSpec := { name := "letterLong", fn := fun _ => fun
  | [d1, d2] => { results := [.lit (.bool true)], args := [d1, d2] }
  | _ => none }
def letterLongRow : OpenClaim := { program := "ytclndbaafibaiaa", sum := "6a9899a1e52e66113f3895e1a9cbd384c7f6c8f73f951a3bd82ac98e59cc1cfd", func := "dewpond/dewpondlaw29.LetterLong", spec := "letterLong", unfollowed := true, recurses := true, apart := false }
def LetterLongSaid : Prop := letterLongRow.holds Try.pinned (OpenSpec.ofChange letterLongSpec)

/-- ITS FALSE NEIGHBOUR: 'it returns false'. Refute it at one input. -/
def letterLongWrong : ChangeSpec := { name := "letterLong", fn := fun _ => fun
  | [d1, d2] => { results := [.lit (.bool false)], args := [d1, d2] }
  | _ => none }
def LetterLongWrongFalsely : Prop := letterLongRow.holds Try.pinned (OpenSpec.ofChange letterLongWrong)

/- THE SECOND FORM. 'bulk': how many values and letters a reading holds, each counted each time it is reached (what is shared counts as often as it is met; a slice's spare places count too). A statement '..UptoSaid' is the law's where the arguments, and the package variables that the reading takes, are together of bulk at most 1048576: NARROWER than '..Said'. Prove '..Said' where nothing that the law and all that it calls make is longer than what came in: it says more and counts as full. Else prove '..UptoSaid'. A law counts once. -/
mutual
def uptoBulk {H : Type} : DataW H → Nat
  | .lit (.string bytes) => bytes.length + 1
  | .lit _ => 1
  | .nil => 1
  | .ptr d => uptoBulk d + 1
  | .slice elems spare => uptoBulkAll elems + uptoBulkAll spare + 1
  | .agg parts => uptoBulkAll parts + 1
  | .iface _ d => uptoBulk d + 1
  | .map entries => uptoBulkEntries entries + 1
  | .held _ => 1
def uptoBulkAll {H : Type} : List (DataW H) → Nat
  | [] => 0
  | d :: r => uptoBulk d + uptoBulkAll r
def uptoBulkEntries {H : Type} : List (Lit × DataW H) → Nat
  | [] => 0
  | x :: r => uptoBulkEntry x + uptoBulkEntries r
def uptoBulkEntry {H : Type} : Lit × DataW H → Nat
  | (.string bytes, d) => bytes.length + uptoBulk d + 1
  | (_, d) => uptoBulk d + 1
 end
def uptoSmall : (H : Type) → List (DataW H) → Bool := fun _ ds => decide (uptoBulkAll ds ≤ 1048576)
def OpenSpec.upto (s : _root_.Go.ChangeSpec) : _root_.Go.OpenSpec := { _root_.Go.OpenSpec.ofChange s with cond := some uptoSmall }

/-- 'dewpondlaw23.SealSums', WHERE WHAT IT READS IS OF BULK AT MOST 1048576: true; the input reads as it did. -/
def sealSumsUptoRow : OpenClaim := { program := "ytclndbaafibaiaa", sum := "6a9899a1e52e66113f3895e1a9cbd384c7f6c8f73f951a3bd82ac98e59cc1cfd", func := "dewpond/dewpondlaw23.SealSums", spec := "sealSums", apart := false, narrowed := true }
def SealSumsUptoSaid : Prop := sealSumsUptoRow.holds Try.pinned (OpenSpec.upto sealSumsSpec)

/-- 'dewpondlaw23.SealJoins', WHERE WHAT IT READS IS OF BULK AT MOST 1048576: true; the input reads as it did. -/
def sealJoinsUptoRow : OpenClaim := { program := "ytclndbaafibaiaa", sum := "6a9899a1e52e66113f3895e1a9cbd384c7f6c8f73f951a3bd82ac98e59cc1cfd", func := "dewpond/dewpondlaw23.SealJoins", spec := "sealJoins", apart := false, narrowed := true }
def SealJoinsUptoSaid : Prop := sealJoinsUptoRow.holds Try.pinned (OpenSpec.upto sealJoinsSpec)

/-- 'dewpondlaw23.SealOpens', WHERE WHAT IT READS IS OF BULK AT MOST 1048576: true; the input reads as it did. -/
def sealOpensUptoRow : OpenClaim := { program := "ytclndbaafibaiaa", sum := "6a9899a1e52e66113f3895e1a9cbd384c7f6c8f73f951a3bd82ac98e59cc1cfd", func := "dewpond/dewpondlaw23.SealOpens", spec := "sealOpens", apart := false, narrowed := true }
def SealOpensUptoSaid : Prop := sealOpensUptoRow.holds Try.pinned (OpenSpec.upto sealOpensSpec)

/-- 'dewpondlaw23.SealTells', WHERE WHAT IT READS IS OF BULK AT MOST 1048576: true; the input reads as it did. -/
def sealTellsUptoRow : OpenClaim := { program := "ytclndbaafibaiaa", sum := "6a9899a1e52e66113f3895e1a9cbd384c7f6c8f73f951a3bd82ac98e59cc1cfd", func := "dewpond/dewpondlaw23.SealTells", spec := "sealTells", apart := false, narrowed := true }
def SealTellsUptoSaid : Prop := sealTellsUptoRow.holds Try.pinned (OpenSpec.upto sealTellsSpec)

/-- 'dewpondlaw22.VaryPuts', WHERE WHAT IT READS IS OF BULK AT MOST 1048576: true; the input reads as it did. -/
def varyPutsUptoRow : OpenClaim := { program := "ytclndbaafibaiaa", sum := "6a9899a1e52e66113f3895e1a9cbd384c7f6c8f73f951a3bd82ac98e59cc1cfd", func := "dewpond/dewpondlaw22.VaryPuts", spec := "varyPuts", apart := false, narrowed := true }
def VaryPutsUptoSaid : Prop := varyPutsUptoRow.holds Try.pinned (OpenSpec.upto varyPutsSpec)

/-- 'dewpondlaw22.VaryGets', WHERE WHAT IT READS IS OF BULK AT MOST 1048576: true; the input reads as it did. -/
def varyGetsUptoRow : OpenClaim := { program := "ytclndbaafibaiaa", sum := "6a9899a1e52e66113f3895e1a9cbd384c7f6c8f73f951a3bd82ac98e59cc1cfd", func := "dewpond/dewpondlaw22.VaryGets", spec := "varyGets", apart := false, narrowed := true }
def VaryGetsUptoSaid : Prop := varyGetsUptoRow.holds Try.pinned (OpenSpec.upto varyGetsSpec)

/-- 'dewpondlaw22.VaryRises', WHERE WHAT IT READS IS OF BULK AT MOST 1048576: true; the input reads as it did. -/
def varyRisesUptoRow : OpenClaim := { program := "ytclndbaafibaiaa", sum := "6a9899a1e52e66113f3895e1a9cbd384c7f6c8f73f951a3bd82ac98e59cc1cfd", func := "dewpond/dewpondlaw22.VaryRises", spec := "varyRises", apart := false, narrowed := true }
def VaryRisesUptoSaid : Prop := varyRisesUptoRow.holds Try.pinned (OpenSpec.upto varyRisesSpec)

/-- 'dewpondlaw22.VaryBack', WHERE WHAT IT READS IS OF BULK AT MOST 1048576: true; the input reads as it did. -/
def varyBackUptoRow : OpenClaim := { program := "ytclndbaafibaiaa", sum := "6a9899a1e52e66113f3895e1a9cbd384c7f6c8f73f951a3bd82ac98e59cc1cfd", func := "dewpond/dewpondlaw22.VaryBack", spec := "varyBack", apart := false, narrowed := true }
def VaryBackUptoSaid : Prop := varyBackUptoRow.holds Try.pinned (OpenSpec.upto varyBackSpec)

/-- 'dewpondlaw29.LetterWrites', WHERE WHAT IT READS IS OF BULK AT MOST 1048576: true; the input reads as it did. -/
def letterWritesUptoRow : OpenClaim := { program := "ytclndbaafibaiaa", sum := "6a9899a1e52e66113f3895e1a9cbd384c7f6c8f73f951a3bd82ac98e59cc1cfd", func := "dewpond/dewpondlaw29.LetterWrites", spec := "letterWrites", apart := false, narrowed := true }
def LetterWritesUptoSaid : Prop := letterWritesUptoRow.holds Try.pinned (OpenSpec.upto letterWritesSpec)

/-- 'dewpondlaw29.LetterReads', WHERE WHAT IT READS IS OF BULK AT MOST 1048576: true; the input reads as it did. -/
def letterReadsUptoRow : OpenClaim := { program := "ytclndbaafibaiaa", sum := "6a9899a1e52e66113f3895e1a9cbd384c7f6c8f73f951a3bd82ac98e59cc1cfd", func := "dewpond/dewpondlaw29.LetterReads", spec := "letterReads", unfollowed := true, recurses := true, apart := false, narrowed := true }
def LetterReadsUptoSaid : Prop := letterReadsUptoRow.holds Try.pinned (OpenSpec.upto letterReadsSpec)

/-- 'dewpondlaw29.LetterBack', WHERE WHAT IT READS IS OF BULK AT MOST 1048576: true; the input reads as it did. -/
def letterBackUptoRow : OpenClaim := { program := "ytclndbaafibaiaa", sum := "6a9899a1e52e66113f3895e1a9cbd384c7f6c8f73f951a3bd82ac98e59cc1cfd", func := "dewpond/dewpondlaw29.LetterBack", spec := "letterBack", unfollowed := true, recurses := true, apart := false, narrowed := true }
def LetterBackUptoSaid : Prop := letterBackUptoRow.holds Try.pinned (OpenSpec.upto letterBackSpec)

/-- 'dewpondlaw29.LetterLong', WHERE WHAT IT READS IS OF BULK AT MOST 1048576: true; the input reads as it did. -/
def letterLongUptoRow : OpenClaim := { program := "ytclndbaafibaiaa", sum := "6a9899a1e52e66113f3895e1a9cbd384c7f6c8f73f951a3bd82ac98e59cc1cfd", func := "dewpond/dewpondlaw29.LetterLong", spec := "letterLong", unfollowed := true, recurses := true, apart := false, narrowed := true }
def LetterLongUptoSaid : Prop := letterLongUptoRow.holds Try.pinned (OpenSpec.upto letterLongSpec)

end Rows
end Go.Proofs.Ytclndbaafibaiaa

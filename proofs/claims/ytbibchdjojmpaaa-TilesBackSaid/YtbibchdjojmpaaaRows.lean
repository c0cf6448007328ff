/-
  No cell of these rows narrows 'for every input' (looked for: loops, veiled, ifaces, maps, wideKeys, modest, calm, conditions, laid).
  DERIVED. THE GIVEN ROWS OF THIS SEAT. 7 by the template 'for every input the law returns true; each argument reads behind the call as it read before'; 0 by the template 'total and deterministic' (their statements: YtbibchdjojmpaaaTotals.lean).
  GIVEN WITH THE SEED: the statements are not yours to turn. If you find one false, say at which input.
  Laid BY PROGRAM, IN A SANDBOX (cutbox-rows.mjs): the forced cells as the released guide's own fill.sh prints them over the translation 4414bbec5c65894d… (all of the seat's roots in one cut). By AI agents, Wed Nov 11 2026. No macro, syntax, notation, axiom, sorry.
-/
import Derived.Test.YtbibchdjojmpaaaChecked
import GoSem.Claim
import GoSem.ClaimJoined
import GoSem.ClaimMapViews
import Derived.JoinedTies
import Derived.KernelRfl
namespace Go.Proofs.Ytbibchdjojmpaaa
/- THE CELL 'sum', in the pinned program and in every row, IS THE sha256 OF THE DUMP (.gsa) THAT YtbibchdjojmpaaaProg.lean LOADS. Nothing in Lean hashes anything: it is a label: what it is worth is what the hold of that sum in a sandbox is worth. -/
noncomputable def Try.pinned : Pinned := { name := "ytbibchdjojmpaaa", sum := "4414bbec5c65894da19a4026429afefbd837cc34a415250bffffe7bb5e8e9eeb", checked := Try.checked }
namespace Rows
def none {H : Type} : Left H := { results := [], args := [] }

/-- 'dewpondlaw03.SpanOf': WHATEVER THE INPUT: true; the input reads as it did. -/
def spanOfSpec : ChangeSpec := { name := "spanOf", fn := fun _ => fun
  | [d1, d2, d3] => { results := [.lit (.bool true)], args := [d1, d2, d3] }
  | _ => none }
def spanOfRow : OpenClaim := { program := "ytbibchdjojmpaaa", sum := "4414bbec5c65894da19a4026429afefbd837cc34a415250bffffe7bb5e8e9eeb", func := "dewpond/dewpondlaw03.SpanOf", spec := "spanOf", apart := false }
def SpanOfSaid : Prop := spanOfRow.holds Try.pinned (OpenSpec.ofChange spanOfSpec)

/-- ITS FALSE NEIGHBOUR: 'it returns false'. Refute it at one input. -/
def spanOfWrong : ChangeSpec := { name := "spanOf", fn := fun _ => fun
  | [d1, d2, d3] => { results := [.lit (.bool false)], args := [d1, d2, d3] }
  | _ => none }
def SpanOfWrongFalsely : Prop := spanOfRow.holds Try.pinned (OpenSpec.ofChange spanOfWrong)

/-- 'dewpondlaw03.SpanNodes': WHATEVER THE INPUT: true; the input reads as it did. -/
def spanNodesSpec : ChangeSpec := { name := "spanNodes", fn := fun _ => fun
  | [d1, d2] => { results := [.lit (.bool true)], args := [d1, d2] }
  | _ => none }
def spanNodesRow : OpenClaim := { program := "ytbibchdjojmpaaa", sum := "4414bbec5c65894da19a4026429afefbd837cc34a415250bffffe7bb5e8e9eeb", func := "dewpond/dewpondlaw03.SpanNodes", spec := "spanNodes", apart := false }
def SpanNodesSaid : Prop := spanNodesRow.holds Try.pinned (OpenSpec.ofChange spanNodesSpec)

/-- ITS FALSE NEIGHBOUR: 'it returns false'. Refute it at one input. -/
def spanNodesWrong : ChangeSpec := { name := "spanNodes", fn := fun _ => fun
  | [d1, d2] => { results := [.lit (.bool false)], args := [d1, d2] }
  | _ => none }
def SpanNodesWrongFalsely : Prop := spanNodesRow.holds Try.pinned (OpenSpec.ofChange spanNodesWrong)

/-- 'dewpondlaw05.TilesOf': WHATEVER THE INPUT: true; the input reads as it did. -/
def tilesOfSpec : ChangeSpec := { name := "tilesOf", fn := fun _ => fun
  | [d1, d2, d3] => { results := [.lit (.bool true)], args := [d1, d2, d3] }
  | _ => none }
def tilesOfRow : OpenClaim := { program := "ytbibchdjojmpaaa", sum := "4414bbec5c65894da19a4026429afefbd837cc34a415250bffffe7bb5e8e9eeb", func := "dewpond/dewpondlaw05.TilesOf", spec := "tilesOf", unfollowed := true, recurses := true, apart := false }
def TilesOfSaid : Prop := tilesOfRow.holds Try.pinned (OpenSpec.ofChange tilesOfSpec)

/-- ITS FALSE NEIGHBOUR: 'it returns false'. Refute it at one input. -/
def tilesOfWrong : ChangeSpec := { name := "tilesOf", fn := fun _ => fun
  | [d1, d2, d3] => { results := [.lit (.bool false)], args := [d1, d2, d3] }
  | _ => none }
def TilesOfWrongFalsely : Prop := tilesOfRow.holds Try.pinned (OpenSpec.ofChange tilesOfWrong)

/-- 'dewpondlaw05.TilesJoin': WHATEVER THE INPUT: true; the input reads as it did. -/
def tilesJoinSpec : ChangeSpec := { name := "tilesJoin", fn := fun _ => fun
  | [d1, d2] => { results := [.lit (.bool true)], args := [d1, d2] }
  | _ => none }
def tilesJoinRow : OpenClaim := { program := "ytbibchdjojmpaaa", sum := "4414bbec5c65894da19a4026429afefbd837cc34a415250bffffe7bb5e8e9eeb", func := "dewpond/dewpondlaw05.TilesJoin", spec := "tilesJoin", unfollowed := true, recurses := true, apart := false }
def TilesJoinSaid : Prop := tilesJoinRow.holds Try.pinned (OpenSpec.ofChange tilesJoinSpec)

/-- ITS FALSE NEIGHBOUR: 'it returns false'. Refute it at one input. -/
def tilesJoinWrong : ChangeSpec := { name := "tilesJoin", fn := fun _ => fun
  | [d1, d2] => { results := [.lit (.bool false)], args := [d1, d2] }
  | _ => none }
def TilesJoinWrongFalsely : Prop := tilesJoinRow.holds Try.pinned (OpenSpec.ofChange tilesJoinWrong)

/-- 'dewpondlaw05.TilesFew': WHATEVER THE INPUT: true; the input reads as it did. -/
def tilesFewSpec : ChangeSpec := { name := "tilesFew", fn := fun _ => fun
  | [d1, d2, d3] => { results := [.lit (.bool true)], args := [d1, d2, d3] }
  | _ => none }
def tilesFewRow : OpenClaim := { program := "ytbibchdjojmpaaa", sum := "4414bbec5c65894da19a4026429afefbd837cc34a415250bffffe7bb5e8e9eeb", func := "dewpond/dewpondlaw05.TilesFew", spec := "tilesFew", unfollowed := true, recurses := true, apart := false }
def TilesFewSaid : Prop := tilesFewRow.holds Try.pinned (OpenSpec.ofChange tilesFewSpec)

/-- ITS FALSE NEIGHBOUR: 'it returns false'. Refute it at one input. -/
def tilesFewWrong : ChangeSpec := { name := "tilesFew", fn := fun _ => fun
  | [d1, d2, d3] => { results := [.lit (.bool false)], args := [d1, d2, d3] }
  | _ => none }
def TilesFewWrongFalsely : Prop := tilesFewRow.holds Try.pinned (OpenSpec.ofChange tilesFewWrong)

/-- 'dewpondlaw05.TilesHolds': WHATEVER THE INPUT: true; the input reads as it did. -/
def tilesHoldsSpec : ChangeSpec := { name := "tilesHolds", fn := fun _ => fun
  | [d1, d2, d3] => { results := [.lit (.bool true)], args := [d1, d2, d3] }
  | _ => none }
def tilesHoldsRow : OpenClaim := { program := "ytbibchdjojmpaaa", sum := "4414bbec5c65894da19a4026429afefbd837cc34a415250bffffe7bb5e8e9eeb", func := "dewpond/dewpondlaw05.TilesHolds", spec := "tilesHolds", unfollowed := true, recurses := true, apart := false }
def TilesHoldsSaid : Prop := tilesHoldsRow.holds Try.pinned (OpenSpec.ofChange tilesHoldsSpec)

/-- ITS FALSE NEIGHBOUR: 'it returns false'. Refute it at one input. -/
def tilesHoldsWrong : ChangeSpec := { name := "tilesHolds", fn := fun _ => fun
  | [d1, d2, d3] => { results := [.lit (.bool false)], args := [d1, d2, d3] }
  | _ => none }
def TilesHoldsWrongFalsely : Prop := tilesHoldsRow.holds Try.pinned (OpenSpec.ofChange tilesHoldsWrong)

/-- 'dewpondlaw05.TilesBack': WHATEVER THE INPUT: true; the input reads as it did. -/
def tilesBackSpec : ChangeSpec := { name := "tilesBack", fn := fun _ => fun
  | [d1, d2, d3] => { results := [.lit (.bool true)], args := [d1, d2, d3] }
  | _ => none }
def tilesBackRow : OpenClaim := { program := "ytbibchdjojmpaaa", sum := "4414bbec5c65894da19a4026429afefbd837cc34a415250bffffe7bb5e8e9eeb", func := "dewpond/dewpondlaw05.TilesBack", spec := "tilesBack", unfollowed := true, recurses := true, apart := false }
def TilesBackSaid : Prop := tilesBackRow.holds Try.pinned (OpenSpec.ofChange tilesBackSpec)

/-- ITS FALSE NEIGHBOUR: 'it returns false'. Refute it at one input. -/
def tilesBackWrong : ChangeSpec := { name := "tilesBack", fn := fun _ => fun
  | [d1, d2, d3] => { results := [.lit (.bool false)], args := [d1, d2, d3] }
  | _ => none }
def TilesBackWrongFalsely : Prop := tilesBackRow.holds Try.pinned (OpenSpec.ofChange tilesBackWrong)

/- THE SECOND FORM. 'bulk': how many values and letters a reading holds, each counted each time it is reached (what is shared counts as often as it is met; a slice's spare places count too). A statement '..UptoSaid' is the law's where the arguments, and the package variables that the reading takes, are together of bulk at most 1048576: NARROWER than '..Said'. Prove '..Said' where nothing that the law and all that it calls make is longer than what came in: it says more and counts as full. Else prove '..UptoSaid'. A law counts once. -/
mutual
def uptoBulk {H : Type} : DataW H → Nat
  | .lit (.string bytes) => bytes.length + 1
  | .lit _ => 1
  | .nil => 1
  | .ptr d => uptoBulk d + 1
  | .slice elems spare => uptoBulkAll elems + uptoBulkAll spare + 1
  | .agg parts => uptoBulkAll parts + 1
  | .iface _ d => uptoBulk d + 1
  | .map entries => uptoBulkEntries entries + 1
  | .held _ => 1
def uptoBulkAll {H : Type} : List (DataW H) → Nat
  | [] => 0
  | d :: r => uptoBulk d + uptoBulkAll r
def uptoBulkEntries {H : Type} : List (Lit × DataW H) → Nat
  | [] => 0
  | x :: r => uptoBulkEntry x + uptoBulkEntries r
def uptoBulkEntry {H : Type} : Lit × DataW H → Nat
  | (.string bytes, d) => bytes.length + uptoBulk d + 1
  | (_, d) => uptoBulk d + 1
 end
def uptoSmall : (H : Type) → List (DataW H) → Bool := fun _ ds => decide (uptoBulkAll ds ≤ 1048576)
def OpenSpec.upto (s : _root_.Go.ChangeSpec) : _root_.Go.OpenSpec := { _root_.Go.OpenSpec.ofChange s with cond := some uptoSmall }

/-- 'dewpondlaw03.SpanOf', WHERE WHAT IT READS IS OF BULK AT MOST 1048576: true; the input reads as it did. -/
def spanOfUptoRow : OpenClaim := { program := "ytbibchdjojmpaaa", sum := "4414bbec5c65894da19a4026429afefbd837cc34a415250bffffe7bb5e8e9eeb", func := "dewpond/dewpondlaw03.SpanOf", spec := "spanOf", apart := false, narrowed := true }
def SpanOfUptoSaid : Prop := spanOfUptoRow.holds Try.pinned (OpenSpec.upto spanOfSpec)

/-- 'dewpondlaw03.SpanNodes', WHERE WHAT IT READS IS OF BULK AT MOST 1048576: true; the input reads as it did. -/
def spanNodesUptoRow : OpenClaim := { program := "ytbibchdjojmpaaa", sum := "4414bbec5c65894da19a4026429afefbd837cc34a415250bffffe7bb5e8e9eeb", func := "dewpond/dewpondlaw03.SpanNodes", spec := "spanNodes", apart := false, narrowed := true }
def SpanNodesUptoSaid : Prop := spanNodesUptoRow.holds Try.pinned (OpenSpec.upto spanNodesSpec)

/-- 'dewpondlaw05.TilesOf', WHERE WHAT IT READS IS OF BULK AT MOST 1048576: true; the input reads as it did. -/
def tilesOfUptoRow : OpenClaim := { program := "ytbibchdjojmpaaa", sum := "4414bbec5c65894da19a4026429afefbd837cc34a415250bffffe7bb5e8e9eeb", func := "dewpond/dewpondlaw05.TilesOf", spec := "tilesOf", unfollowed := true, recurses := true, apart := false, narrowed := true }
def TilesOfUptoSaid : Prop := tilesOfUptoRow.holds Try.pinned (OpenSpec.upto tilesOfSpec)

/-- 'dewpondlaw05.TilesJoin', WHERE WHAT IT READS IS OF BULK AT MOST 1048576: true; the input reads as it did. -/
def tilesJoinUptoRow : OpenClaim := { program := "ytbibchdjojmpaaa", sum := "4414bbec5c65894da19a4026429afefbd837cc34a415250bffffe7bb5e8e9eeb", func := "dewpond/dewpondlaw05.TilesJoin", spec := "tilesJoin", unfollowed := true, recurses := true, apart := false, narrowed := true }
def TilesJoinUptoSaid : Prop := tilesJoinUptoRow.holds Try.pinned (OpenSpec.upto tilesJoinSpec)

/-- 'dewpondlaw05.TilesFew', WHERE WHAT IT READS IS OF BULK AT MOST 1048576: true; the input reads as it did. -/
def tilesFewUptoRow : OpenClaim := { program := "ytbibchdjojmpaaa", sum := "4414bbec5c65894da19a4026429afefbd837cc34a415250bffffe7bb5e8e9eeb", func := "dewpond/dewpondlaw05.TilesFew", spec := "tilesFew", unfollowed := true, recurses := true, apart := false, narrowed := true }
def TilesFewUptoSaid : Prop := tilesFewUptoRow.holds Try.pinned (OpenSpec.upto tilesFewSpec)

/-- 'dewpondlaw05.TilesHolds', WHERE WHAT IT READS IS OF BULK AT MOST 1048576: true; the input reads as it did. -/
def tilesHoldsUptoRow : OpenClaim := { program := "ytbibchdjojmpaaa", sum := "4414bbec5c65894da19a4026429afefbd837cc34a415250bffffe7bb5e8e9eeb", func := "dewpond/dewpondlaw05.TilesHolds", spec := "tilesHolds", unfollowed := true, recurses := true, apart := false, narrowed := true }
def TilesHoldsUptoSaid : Prop := tilesHoldsUptoRow.holds Try.pinned (OpenSpec.upto tilesHoldsSpec)

/-- 'dewpondlaw05.TilesBack', WHERE WHAT IT READS IS OF BULK AT MOST 1048576: true; the input reads as it did. -/
def tilesBackUptoRow : OpenClaim := { program := "ytbibchdjojmpaaa", sum := "4414bbec5c65894da19a4026429afefbd837cc34a415250bffffe7bb5e8e9eeb", func := "dewpond/dewpondlaw05.TilesBack", spec := "tilesBack", unfollowed := true, recurses := true, apart := false, narrowed := true }
def TilesBackUptoSaid : Prop := tilesBackUptoRow.holds Try.pinned (OpenSpec.upto tilesBackSpec)

end Rows
end Go.Proofs.Ytbibchdjojmpaaa

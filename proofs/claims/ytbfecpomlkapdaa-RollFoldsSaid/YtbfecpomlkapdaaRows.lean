/-
  No cell of these rows narrows 'for every input' (looked for: loops, veiled, ifaces, maps, wideKeys, modest, calm, conditions, laid).
  DERIVED. THE GIVEN ROWS OF THIS SEAT. 11 by the template 'for every input the law returns true; each argument reads behind the call as it read before'; 0 by the template 'total and deterministic' (their statements: YtbfecpomlkapdaaTotals.lean).
  GIVEN WITH THE SEED: the statements are not yours to turn. If you find one false, say at which input.
  Laid BY PROGRAM, IN A SANDBOX (cutbox-rows.mjs): the forced cells as the released guide's own fill.sh prints them over the translation c17b4da44ab3eee9… (all of the seat's roots in one cut). By AI agents, Wed Nov 11 2026. No macro, syntax, notation, axiom, sorry.
-/
import Derived.Test.YtbfecpomlkapdaaChecked
import GoSem.Claim
import GoSem.ClaimJoined
import GoSem.ClaimMapViews
import Derived.JoinedTies
import Derived.KernelRfl
namespace Go.Proofs.Ytbfecpomlkapdaa
/- THE CELL 'sum', in the pinned program and in every row, IS THE sha256 OF THE DUMP (.gsa) THAT YtbfecpomlkapdaaProg.lean LOADS. Nothing in Lean hashes anything: it is a label: what it is worth is what the hold of that sum in a sandbox is worth. -/
noncomputable def Try.pinned : Pinned := { name := "ytbfecpomlkapdaa", sum := "c17b4da44ab3eee97bae18b4be78b05badf1e5962c3d310fc859f6ac1f118ba7", checked := Try.checked }
namespace Rows
def none {H : Type} : Left H := { results := [], args := [] }

/-- 'dewpondlaw02.TwigMeets': WHATEVER THE INPUT: true; the input reads as it did. -/
def twigMeetsSpec : ChangeSpec := { name := "twigMeets", fn := fun _ => fun
  | [d1, d2] => { results := [.lit (.bool true)], args := [d1, d2] }
  | _ => none }
def twigMeetsRow : OpenClaim := { program := "ytbfecpomlkapdaa", sum := "c17b4da44ab3eee97bae18b4be78b05badf1e5962c3d310fc859f6ac1f118ba7", func := "dewpond/dewpondlaw02.TwigMeets", spec := "twigMeets", apart := false }
def TwigMeetsSaid : Prop := twigMeetsRow.holds Try.pinned (OpenSpec.ofChange twigMeetsSpec)

/-- ITS FALSE NEIGHBOUR: 'it returns false'. Refute it at one input. -/
def twigMeetsWrong : ChangeSpec := { name := "twigMeets", fn := fun _ => fun
  | [d1, d2] => { results := [.lit (.bool false)], args := [d1, d2] }
  | _ => none }
def TwigMeetsWrongFalsely : Prop := twigMeetsRow.holds Try.pinned (OpenSpec.ofChange twigMeetsWrong)

/-- 'dewpondlaw02.TwigTells': WHATEVER THE INPUT: true; the input reads as it did. -/
def twigTellsSpec : ChangeSpec := { name := "twigTells", fn := fun _ => fun
  | [d1, d2, d3] => { results := [.lit (.bool true)], args := [d1, d2, d3] }
  | _ => none }
def twigTellsRow : OpenClaim := { program := "ytbfecpomlkapdaa", sum := "c17b4da44ab3eee97bae18b4be78b05badf1e5962c3d310fc859f6ac1f118ba7", func := "dewpond/dewpondlaw02.TwigTells", spec := "twigTells", apart := false }
def TwigTellsSaid : Prop := twigTellsRow.holds Try.pinned (OpenSpec.ofChange twigTellsSpec)

/-- ITS FALSE NEIGHBOUR: 'it returns false'. Refute it at one input. -/
def twigTellsWrong : ChangeSpec := { name := "twigTells", fn := fun _ => fun
  | [d1, d2, d3] => { results := [.lit (.bool false)], args := [d1, d2, d3] }
  | _ => none }
def TwigTellsWrongFalsely : Prop := twigTellsRow.holds Try.pinned (OpenSpec.ofChange twigTellsWrong)

/-- 'dewpondlaw02.TwigHolds': WHATEVER THE INPUT: true; the input reads as it did. -/
def twigHoldsSpec : ChangeSpec := { name := "twigHolds", fn := fun _ => fun
  | [d1, d2, d3] => { results := [.lit (.bool true)], args := [d1, d2, d3] }
  | _ => none }
def twigHoldsRow : OpenClaim := { program := "ytbfecpomlkapdaa", sum := "c17b4da44ab3eee97bae18b4be78b05badf1e5962c3d310fc859f6ac1f118ba7", func := "dewpond/dewpondlaw02.TwigHolds", spec := "twigHolds", apart := false }
def TwigHoldsSaid : Prop := twigHoldsRow.holds Try.pinned (OpenSpec.ofChange twigHoldsSpec)

/-- ITS FALSE NEIGHBOUR: 'it returns false'. Refute it at one input. -/
def twigHoldsWrong : ChangeSpec := { name := "twigHolds", fn := fun _ => fun
  | [d1, d2, d3] => { results := [.lit (.bool false)], args := [d1, d2, d3] }
  | _ => none }
def TwigHoldsWrongFalsely : Prop := twigHoldsRow.holds Try.pinned (OpenSpec.ofChange twigHoldsWrong)

/-- 'dewpondlaw02.TwigMoves': WHATEVER THE INPUT: true; the input reads as it did. -/
def twigMovesSpec : ChangeSpec := { name := "twigMoves", fn := fun _ => fun
  | [d1, d2, d3] => { results := [.lit (.bool true)], args := [d1, d2, d3] }
  | _ => none }
def twigMovesRow : OpenClaim := { program := "ytbfecpomlkapdaa", sum := "c17b4da44ab3eee97bae18b4be78b05badf1e5962c3d310fc859f6ac1f118ba7", func := "dewpond/dewpondlaw02.TwigMoves", spec := "twigMoves", apart := false }
def TwigMovesSaid : Prop := twigMovesRow.holds Try.pinned (OpenSpec.ofChange twigMovesSpec)

/-- ITS FALSE NEIGHBOUR: 'it returns false'. Refute it at one input. -/
def twigMovesWrong : ChangeSpec := { name := "twigMoves", fn := fun _ => fun
  | [d1, d2, d3] => { results := [.lit (.bool false)], args := [d1, d2, d3] }
  | _ => none }
def TwigMovesWrongFalsely : Prop := twigMovesRow.holds Try.pinned (OpenSpec.ofChange twigMovesWrong)

/-- 'dewpondlaw02.TwigGrafts': WHATEVER THE INPUT: true; the input reads as it did. -/
def twigGraftsSpec : ChangeSpec := { name := "twigGrafts", fn := fun _ => fun
  | [d1, d2, d3] => { results := [.lit (.bool true)], args := [d1, d2, d3] }
  | _ => none }
def twigGraftsRow : OpenClaim := { program := "ytbfecpomlkapdaa", sum := "c17b4da44ab3eee97bae18b4be78b05badf1e5962c3d310fc859f6ac1f118ba7", func := "dewpond/dewpondlaw02.TwigGrafts", spec := "twigGrafts", apart := false }
def TwigGraftsSaid : Prop := twigGraftsRow.holds Try.pinned (OpenSpec.ofChange twigGraftsSpec)

/-- ITS FALSE NEIGHBOUR: 'it returns false'. Refute it at one input. -/
def twigGraftsWrong : ChangeSpec := { name := "twigGrafts", fn := fun _ => fun
  | [d1, d2, d3] => { results := [.lit (.bool false)], args := [d1, d2, d3] }
  | _ => none }
def TwigGraftsWrongFalsely : Prop := twigGraftsRow.holds Try.pinned (OpenSpec.ofChange twigGraftsWrong)

/-- 'dewpondlaw02.TwigSteps': WHATEVER THE INPUT: true; the input reads as it did. -/
def twigStepsSpec : ChangeSpec := { name := "twigSteps", fn := fun _ => fun
  | [d1, d2, d3] => { results := [.lit (.bool true)], args := [d1, d2, d3] }
  | _ => none }
def twigStepsRow : OpenClaim := { program := "ytbfecpomlkapdaa", sum := "c17b4da44ab3eee97bae18b4be78b05badf1e5962c3d310fc859f6ac1f118ba7", func := "dewpond/dewpondlaw02.TwigSteps", spec := "twigSteps", apart := false }
def TwigStepsSaid : Prop := twigStepsRow.holds Try.pinned (OpenSpec.ofChange twigStepsSpec)

/-- ITS FALSE NEIGHBOUR: 'it returns false'. Refute it at one input. -/
def twigStepsWrong : ChangeSpec := { name := "twigSteps", fn := fun _ => fun
  | [d1, d2, d3] => { results := [.lit (.bool false)], args := [d1, d2, d3] }
  | _ => none }
def TwigStepsWrongFalsely : Prop := twigStepsRow.holds Try.pinned (OpenSpec.ofChange twigStepsWrong)

/-- 'dewpondlaw06.RollPosts': WHATEVER THE INPUT: true; the input reads as it did. -/
def rollPostsSpec : ChangeSpec := { name := "rollPosts", fn := fun _ => fun
  | [d1, d2] => { results := [.lit (.bool true)], args := [d1, d2] }
  | _ => none }
def rollPostsRow : OpenClaim := { program := "ytbfecpomlkapdaa", sum := "c17b4da44ab3eee97bae18b4be78b05badf1e5962c3d310fc859f6ac1f118ba7", func := "dewpond/dewpondlaw06.RollPosts", spec := "rollPosts", unfollowed := true, recurses := true, apart := false }
def RollPostsSaid : Prop := rollPostsRow.holds Try.pinned (OpenSpec.ofChange rollPostsSpec)

/-- ITS FALSE NEIGHBOUR: 'it returns false'. Refute it at one input. -/
def rollPostsWrong : ChangeSpec := { name := "rollPosts", fn := fun _ => fun
  | [d1, d2] => { results := [.lit (.bool false)], args := [d1, d2] }
  | _ => none }
def RollPostsWrongFalsely : Prop := rollPostsRow.holds Try.pinned (OpenSpec.ofChange rollPostsWrong)

/-- 'dewpondlaw06.RollSorts': WHATEVER THE INPUT: true; the input reads as it did. -/
def rollSortsSpec : ChangeSpec := { name := "rollSorts", fn := fun _ => fun
  | [d1, d2] => { results := [.lit (.bool true)], args := [d1, d2] }
  | _ => none }
def rollSortsRow : OpenClaim := { program := "ytbfecpomlkapdaa", sum := "c17b4da44ab3eee97bae18b4be78b05badf1e5962c3d310fc859f6ac1f118ba7", func := "dewpond/dewpondlaw06.RollSorts", spec := "rollSorts", unfollowed := true, recurses := true, apart := false }
def RollSortsSaid : Prop := rollSortsRow.holds Try.pinned (OpenSpec.ofChange rollSortsSpec)

/-- ITS FALSE NEIGHBOUR: 'it returns false'. Refute it at one input. -/
def rollSortsWrong : ChangeSpec := { name := "rollSorts", fn := fun _ => fun
  | [d1, d2] => { results := [.lit (.bool false)], args := [d1, d2] }
  | _ => none }
def RollSortsWrongFalsely : Prop := rollSortsRow.holds Try.pinned (OpenSpec.ofChange rollSortsWrong)

/-- 'dewpondlaw06.RollTells': WHATEVER THE INPUT: true; the input reads as it did. -/
def rollTellsSpec : ChangeSpec := { name := "rollTells", fn := fun _ => fun
  | [d1, d2, d3] => { results := [.lit (.bool true)], args := [d1, d2, d3] }
  | _ => none }
def rollTellsRow : OpenClaim := { program := "ytbfecpomlkapdaa", sum := "c17b4da44ab3eee97bae18b4be78b05badf1e5962c3d310fc859f6ac1f118ba7", func := "dewpond/dewpondlaw06.RollTells", spec := "rollTells", unfollowed := true, recurses := true, apart := false }
def RollTellsSaid : Prop := rollTellsRow.holds Try.pinned (OpenSpec.ofChange rollTellsSpec)

/-- ITS FALSE NEIGHBOUR: 'it returns false'. Refute it at one input. -/
def rollTellsWrong : ChangeSpec := { name := "rollTells", fn := fun _ => fun
  | [d1, d2, d3] => { results := [.lit (.bool false)], args := [d1, d2, d3] }
  | _ => none }
def RollTellsWrongFalsely : Prop := rollTellsRow.holds Try.pinned (OpenSpec.ofChange rollTellsWrong)

/-- 'dewpondlaw06.RollFolds': WHATEVER THE INPUT: true; the input reads as it did. -/
def rollFoldsSpec : ChangeSpec := { name := "rollFolds", fn := fun _ => fun
  | [d1, d2] => { results := [.lit (.bool true)], args := [d1, d2] }
  | _ => none }
def rollFoldsRow : OpenClaim := { program := "ytbfecpomlkapdaa", sum := "c17b4da44ab3eee97bae18b4be78b05badf1e5962c3d310fc859f6ac1f118ba7", func := "dewpond/dewpondlaw06.RollFolds", spec := "rollFolds", unfollowed := true, recurses := true, apart := false }
def RollFoldsSaid : Prop := rollFoldsRow.holds Try.pinned (OpenSpec.ofChange rollFoldsSpec)

/-- ITS FALSE NEIGHBOUR: 'it returns false'. Refute it at one input. -/
def rollFoldsWrong : ChangeSpec := { name := "rollFolds", fn := fun _ => fun
  | [d1, d2] => { results := [.lit (.bool false)], args := [d1, d2] }
  | _ => none }
def RollFoldsWrongFalsely : Prop := rollFoldsRow.holds Try.pinned (OpenSpec.ofChange rollFoldsWrong)

/-- 'dewpondlaw06.RollBack': WHATEVER THE INPUT: true; the input reads as it did. -/
def rollBackSpec : ChangeSpec := { name := "rollBack", fn := fun _ => fun
  | [d1, d2, d3] => { results := [.lit (.bool true)], args := [d1, d2, d3] }
  | _ => none }
def rollBackRow : OpenClaim := { program := "ytbfecpomlkapdaa", sum := "c17b4da44ab3eee97bae18b4be78b05badf1e5962c3d310fc859f6ac1f118ba7", func := "dewpond/dewpondlaw06.RollBack", spec := "rollBack", unfollowed := true, recurses := true, apart := false }
def RollBackSaid : Prop := rollBackRow.holds Try.pinned (OpenSpec.ofChange rollBackSpec)

/-- ITS FALSE NEIGHBOUR: 'it returns false'. Refute it at one input. -/
def rollBackWrong : ChangeSpec := { name := "rollBack", fn := fun _ => fun
  | [d1, d2, d3] => { results := [.lit (.bool false)], args := [d1, d2, d3] }
  | _ => none }
def RollBackWrongFalsely : Prop := rollBackRow.holds Try.pinned (OpenSpec.ofChange rollBackWrong)

/- THE SECOND FORM. 'bulk': how many values and letters a reading holds, each counted each time it is reached (what is shared counts as often as it is met; a slice's spare places count too). A statement '..UptoSaid' is the law's where the arguments, and the package variables that the reading takes, are together of bulk at most 1048576: NARROWER than '..Said'. Prove '..Said' where nothing that the law and all that it calls make is longer than what came in: it says more and counts as full. Else prove '..UptoSaid'. A law counts once. -/
mutual
def uptoBulk {H : Type} : DataW H → Nat
  | .lit (.string bytes) => bytes.length + 1
  | .lit _ => 1
  | .nil => 1
  | .ptr d => uptoBulk d + 1
  | .slice elems spare => uptoBulkAll elems + uptoBulkAll spare + 1
  | .agg parts => uptoBulkAll parts + 1
  | .iface _ d => uptoBulk d + 1
  | .map entries => uptoBulkEntries entries + 1
  | .held _ => 1
def uptoBulkAll {H : Type} : List (DataW H) → Nat
  | [] => 0
  | d :: r => uptoBulk d + uptoBulkAll r
def uptoBulkEntries {H : Type} : List (Lit × DataW H) → Nat
  | [] => 0
  | x :: r => uptoBulkEntry x + uptoBulkEntries r
def uptoBulkEntry {H : Type} : Lit × DataW H → Nat
  | (.string bytes, d) => bytes.length + uptoBulk d + 1
  | (_, d) => uptoBulk d + 1
 end
def uptoSmall : (H : Type) → List (DataW H) → Bool := fun _ ds => decide (uptoBulkAll ds ≤ 1048576)
def OpenSpec.upto (s : _root_.Go.ChangeSpec) : _root_.Go.OpenSpec := { _root_.Go.OpenSpec.ofChange s with cond := some uptoSmall }

/-- 'dewpondlaw02.TwigMeets', WHERE WHAT IT READS IS OF BULK AT MOST 1048576: true; the input reads as it did. -/
def twigMeetsUptoRow : OpenClaim := { program := "ytbfecpomlkapdaa", sum := "c17b4da44ab3eee97bae18b4be78b05badf1e5962c3d310fc859f6ac1f118ba7", func := "dewpond/dewpondlaw02.TwigMeets", spec := "twigMeets", apart := false, narrowed := true }
def TwigMeetsUptoSaid : Prop := twigMeetsUptoRow.holds Try.pinned (OpenSpec.upto twigMeetsSpec)

/-- 'dewpondlaw02.TwigTells', WHERE WHAT IT READS IS OF BULK AT MOST 1048576: true; the input reads as it did. -/
def twigTellsUptoRow : OpenClaim := { program := "ytbfecpomlkapdaa", sum := "c17b4da44ab3eee97bae18b4be78b05badf1e5962c3d310fc859f6ac1f118ba7", func := "dewpond/dewpondlaw02.TwigTells", spec := "twigTells", apart := false, narrowed := true }
def TwigTellsUptoSaid : Prop := twigTellsUptoRow.holds Try.pinned (OpenSpec.upto twigTellsSpec)

/-- 'dewpondlaw02.TwigHolds', WHERE WHAT IT READS IS OF BULK AT MOST 1048576: true; the input reads as it did. -/
def twigHoldsUptoRow : OpenClaim := { program := "ytbfecpomlkapdaa", sum := "c17b4da44ab3eee97bae18b4be78b05badf1e5962c3d310fc859f6ac1f118ba7", func := "dewpond/dewpondlaw02.TwigHolds", spec := "twigHolds", apart := false, narrowed := true }
def TwigHoldsUptoSaid : Prop := twigHoldsUptoRow.holds Try.pinned (OpenSpec.upto twigHoldsSpec)

/-- 'dewpondlaw02.TwigMoves', WHERE WHAT IT READS IS OF BULK AT MOST 1048576: true; the input reads as it did. -/
def twigMovesUptoRow : OpenClaim := { program := "ytbfecpomlkapdaa", sum := "c17b4da44ab3eee97bae18b4be78b05badf1e5962c3d310fc859f6ac1f118ba7", func := "dewpond/dewpondlaw02.TwigMoves", spec := "twigMoves", apart := false, narrowed := true }
def TwigMovesUptoSaid : Prop := twigMovesUptoRow.holds Try.pinned (OpenSpec.upto twigMovesSpec)

/-- 'dewpondlaw02.TwigGrafts', WHERE WHAT IT READS IS OF BULK AT MOST 1048576: true; the input reads as it did. -/
def twigGraftsUptoRow : OpenClaim := { program := "ytbfecpomlkapdaa", sum := "c17b4da44ab3eee97bae18b4be78b05badf1e5962c3d310fc859f6ac1f118ba7", func := "dewpond/dewpondlaw02.TwigGrafts", spec := "twigGrafts", apart := false, narrowed := true }
def TwigGraftsUptoSaid : Prop := twigGraftsUptoRow.holds Try.pinned (OpenSpec.upto twigGraftsSpec)

/-- 'dewpondlaw02.TwigSteps', WHERE WHAT IT READS IS OF BULK AT MOST 1048576: true; the input reads as it did. -/
def twigStepsUptoRow : OpenClaim := { program := "ytbfecpomlkapdaa", sum := "c17b4da44ab3eee97bae18b4be78b05badf1e5962c3d310fc859f6ac1f118ba7", func := "dewpond/dewpondlaw02.TwigSteps", spec := "twigSteps", apart := false, narrowed := true }
def TwigStepsUptoSaid : Prop := twigStepsUptoRow.holds Try.pinned (OpenSpec.upto twigStepsSpec)

/-- 'dewpondlaw06.RollPosts', WHERE WHAT IT READS IS OF BULK AT MOST 1048576: true; the input reads as it did. -/
def rollPostsUptoRow : OpenClaim := { program := "ytbfecpomlkapdaa", sum := "c17b4da44ab3eee97bae18b4be78b05badf1e5962c3d310fc859f6ac1f118ba7", func := "dewpond/dewpondlaw06.RollPosts", spec := "rollPosts", unfollowed := true, recurses := true, apart := false, narrowed := true }
def RollPostsUptoSaid : Prop := rollPostsUptoRow.holds Try.pinned (OpenSpec.upto rollPostsSpec)

/-- 'dewpondlaw06.RollSorts', WHERE WHAT IT READS IS OF BULK AT MOST 1048576: true; the input reads as it did. -/
def rollSortsUptoRow : OpenClaim := { program := "ytbfecpomlkapdaa", sum := "c17b4da44ab3eee97bae18b4be78b05badf1e5962c3d310fc859f6ac1f118ba7", func := "dewpond/dewpondlaw06.RollSorts", spec := "rollSorts", unfollowed := true, recurses := true, apart := false, narrowed := true }
def RollSortsUptoSaid : Prop := rollSortsUptoRow.holds Try.pinned (OpenSpec.upto rollSortsSpec)

/-- 'dewpondlaw06.RollTells', WHERE WHAT IT READS IS OF BULK AT MOST 1048576: true; the input reads as it did. -/
def rollTellsUptoRow : OpenClaim := { program := "ytbfecpomlkapdaa", sum := "c17b4da44ab3eee97bae18b4be78b05badf1e5962c3d310fc859f6ac1f118ba7", func := "dewpond/dewpondlaw06.RollTells", spec := "rollTells", unfollowed := true, recurses := true, apart := false, narrowed := true }
def RollTellsUptoSaid : Prop := rollTellsUptoRow.holds Try.pinned (OpenSpec.upto rollTellsSpec)

/-- 'dewpondlaw06.RollFolds', WHERE WHAT IT READS IS OF BULK AT MOST 1048576: true; the input reads as it did. -/
def rollFoldsUptoRow : OpenClaim := { program := "ytbfecpomlkapdaa", sum := "c17b4da44ab3eee97bae18b4be78b05badf1e5962c3d310fc859f6ac1f118ba7", func := "dewpond/dewpondlaw06.RollFolds", spec := "rollFolds", unfollowed := true, recurses := true, apart := false, narrowed := true }
def RollFoldsUptoSaid : Prop := rollFoldsUptoRow.holds Try.pinned (OpenSpec.upto rollFoldsSpec)

/-- 'dewpondlaw06.RollBack', WHERE WHAT IT READS IS OF BULK AT MOST 1048576: true; the input reads as it did. -/
def rollBackUptoRow : OpenClaim := { program := "ytbfecpomlkapdaa", sum := "c17b4da44ab3eee97bae18b4be78b05badf1e5962c3d310fc859f6ac1f118ba7", func := "dewpond/dewpondlaw06.RollBack", spec := "rollBack", unfollowed := true, recurses := true, apart := false, narrowed := true }
def RollBackUptoSaid : Prop := rollBackUptoRow.holds Try.pinned (OpenSpec.upto rollBackSpec)

end Rows
end Go.Proofs.Ytbfecpomlkapdaa

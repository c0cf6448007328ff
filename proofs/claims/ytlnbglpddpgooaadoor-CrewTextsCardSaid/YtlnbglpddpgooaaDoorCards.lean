/-
  DERIVED. GIVEN WITH THE SEED: THE CARDS: each row of YtlnbglpddpgooaaDoorRows.lean that lists a variable, with what it lists TIED to the program's text (the seventh form; the later family's looks); each row that meets fmt, with fmt's text TOLD by the authors' own Lean function (tested against real Go, not proved from fmt's source: count such statements apart). THE CARD IS WHAT COUNTS. Prove the row's statement (the work); the ties are given (YtlnbglpddpgooaaDoorTie.lean); close each card by the builder's one call (the guide's Derived/Test/ToyasCard.lean, 'card_holds'). Laid BY PROGRAM, IN A SANDBOX (cutbox-door.mjs). By AI agents, Wed Nov 11 2026. No macro, syntax, notation, axiom, sorry.
-/
import Derived.Test.YtlnbglpddpgooaaDoorRows
import GoSem.ClaimSeven
namespace Go.Proofs.YtlnbglpddpgooaaDoor
namespace Rows

/-- THE TIED CARD OF 'dewpondlaw27.CrewEach'. -/
def crewEachCard : Claim7 := { stood := { row := crewEachRow, standIns := [], harness := (true, "c8fb058aaee35af06f34469add529666af84282bd3cc0286d8f51063dee6a9b8"), looks := false }, kinds := [], alts := [], laidByText := true, laidKinds := [.data], laidTests := true, laidLooks := .later }
def CrewEachCardSaid : Prop := Claim7.holds Tryd.pinned (.plain (OpenSpec.ofChange crewEachSpec)) crewEachCard

/-- THE TIED CARD OF 'dewpondlaw27.CrewMoves'. -/
def crewMovesCard : Claim7 := { stood := { row := crewMovesRow, standIns := [], harness := (true, "c8fb058aaee35af06f34469add529666af84282bd3cc0286d8f51063dee6a9b8"), looks := false }, kinds := [], alts := [], laidByText := true, laidKinds := [.data], laidTests := true, laidLooks := .later }
def CrewMovesCardSaid : Prop := Claim7.holds Tryd.pinned (.plain (OpenSpec.ofChange crewMovesSpec)) crewMovesCard

/-- THE TIED CARD OF 'dewpondlaw27.CrewMakes'. -/
def crewMakesCard : Claim7 := { stood := { row := crewMakesRow, standIns := [], harness := (true, "c8fb058aaee35af06f34469add529666af84282bd3cc0286d8f51063dee6a9b8"), looks := false }, kinds := [], alts := [], laidByText := true, laidKinds := [.data], laidTests := true, laidLooks := .later }
def CrewMakesCardSaid : Prop := Claim7.holds Tryd.pinned (.plain (OpenSpec.ofChange crewMakesSpec)) crewMakesCard

/-- THE TIED CARD OF 'dewpondlaw27.CrewTexts'. -/
def crewTextsCard : Claim7 := { stood := { row := crewTextsRow, standIns := [], harness := (true, "c8fb058aaee35af06f34469add529666af84282bd3cc0286d8f51063dee6a9b8"), looks := false }, kinds := [], alts := [], laidByText := true, laidKinds := [.data, .data, .pinned], laidTests := true, laidLooks := .later }
def CrewTextsCardSaid : Prop := Claim7.holds Tryd.pinned (.plain (OpenSpec.ofChange crewTextsSpec)) crewTextsCard

/-- THE TIED CARD OF 'dewpondlaw27.CrewBack'. -/
def crewBackCard : Claim7 := { stood := { row := crewBackRow, standIns := [], harness := (true, "c8fb058aaee35af06f34469add529666af84282bd3cc0286d8f51063dee6a9b8"), looks := false }, kinds := [], alts := [], laidByText := true, laidKinds := [.data, .data, .pinned], laidTests := true, laidLooks := .later }
def CrewBackCardSaid : Prop := Claim7.holds Tryd.pinned (.plain (OpenSpec.ofChange crewBackSpec)) crewBackCard

/-- THE SECOND FORM's CARD OF 'dewpondlaw27.CrewEach'. -/
def crewEachUptoCard : Claim7 := { stood := { row := crewEachUptoRow, standIns := [], harness := (true, "c8fb058aaee35af06f34469add529666af84282bd3cc0286d8f51063dee6a9b8"), looks := false }, kinds := [], alts := [], laidByText := true, laidKinds := [.data], laidTests := true, laidLooks := .later }
def CrewEachUptoCardSaid : Prop := Claim7.holds Tryd.pinned (.plain (OpenSpec.upto crewEachSpec)) crewEachUptoCard

/-- THE SECOND FORM's CARD OF 'dewpondlaw27.CrewMoves'. -/
def crewMovesUptoCard : Claim7 := { stood := { row := crewMovesUptoRow, standIns := [], harness := (true, "c8fb058aaee35af06f34469add529666af84282bd3cc0286d8f51063dee6a9b8"), looks := false }, kinds := [], alts := [], laidByText := true, laidKinds := [.data], laidTests := true, laidLooks := .later }
def CrewMovesUptoCardSaid : Prop := Claim7.holds Tryd.pinned (.plain (OpenSpec.upto crewMovesSpec)) crewMovesUptoCard

/-- THE SECOND FORM's CARD OF 'dewpondlaw27.CrewMakes'. -/
def crewMakesUptoCard : Claim7 := { stood := { row := crewMakesUptoRow, standIns := [], harness := (true, "c8fb058aaee35af06f34469add529666af84282bd3cc0286d8f51063dee6a9b8"), looks := false }, kinds := [], alts := [], laidByText := true, laidKinds := [.data], laidTests := true, laidLooks := .later }
def CrewMakesUptoCardSaid : Prop := Claim7.holds Tryd.pinned (.plain (OpenSpec.upto crewMakesSpec)) crewMakesUptoCard

/-- THE SECOND FORM's CARD OF 'dewpondlaw27.CrewTexts'. -/
def crewTextsUptoCard : Claim7 := { stood := { row := crewTextsUptoRow, standIns := [], harness := (true, "c8fb058aaee35af06f34469add529666af84282bd3cc0286d8f51063dee6a9b8"), looks := false }, kinds := [], alts := [], laidByText := true, laidKinds := [.data, .data, .pinned], laidTests := true, laidLooks := .later }
def CrewTextsUptoCardSaid : Prop := Claim7.holds Tryd.pinned (.plain (OpenSpec.upto crewTextsSpec)) crewTextsUptoCard

/-- THE SECOND FORM's CARD OF 'dewpondlaw27.CrewBack'. -/
def crewBackUptoCard : Claim7 := { stood := { row := crewBackUptoRow, standIns := [], harness := (true, "c8fb058aaee35af06f34469add529666af84282bd3cc0286d8f51063dee6a9b8"), looks := false }, kinds := [], alts := [], laidByText := true, laidKinds := [.data, .data, .pinned], laidTests := true, laidLooks := .later }
def CrewBackUptoCardSaid : Prop := Claim7.holds Tryd.pinned (.plain (OpenSpec.upto crewBackSpec)) crewBackUptoCard
end Rows
end Go.Proofs.YtlnbglpddpgooaaDoor

/-
  DERIVED. GIVEN WITH THE SEED: THE CARDS: each row of YtcpakoobgcdekaaDoorRows.lean that lists a variable, with what it lists TIED to the program's text (the seventh form; the later family's looks); each row that meets fmt, with fmt's text TOLD by the authors' own Lean function (tested against real Go, not proved from fmt's source: count such statements apart). THE CARD IS WHAT COUNTS. Prove the row's statement (the work); the ties are given (YtcpakoobgcdekaaDoorTie.lean); close each card by the builder's one call (the guide's Derived/Test/ToyasCard.lean, 'card_holds'). Laid BY PROGRAM, IN A SANDBOX (cutbox-door.mjs). By AI agents, Wed Nov 11 2026. No macro, syntax, notation, axiom, sorry.
-/
import Derived.Test.YtcpakoobgcdekaaDoorRows
import GoSem.ClaimSeven
namespace Go.Proofs.YtcpakoobgcdekaaDoor
namespace Rows

/-- THE TIED CARD OF 'dewpondlaw28.GroveHangs'. -/
def groveHangsCard : Claim7 := { stood := { row := groveHangsRow, standIns := [], harness := (true, "5474a434b132d5ed57ec0cbcd781c8f0b1cc43c31161f5d42cc372f9200464eb"), looks := false }, kinds := [], alts := [], laidByText := true, laidKinds := [.data], laidTests := true, laidLooks := .later }
def GroveHangsCardSaid : Prop := Claim7.holds Tryd.pinned (.plain (OpenSpec.ofChange groveHangsSpec)) groveHangsCard

/-- THE TIED CARD OF 'dewpondlaw28.GroveTells'. -/
def groveTellsCard : Claim7 := { stood := { row := groveTellsRow, standIns := [], harness := (true, "5474a434b132d5ed57ec0cbcd781c8f0b1cc43c31161f5d42cc372f9200464eb"), looks := false }, kinds := [], alts := [], laidByText := true, laidKinds := [.data], laidTests := true, laidLooks := .later }
def GroveTellsCardSaid : Prop := Claim7.holds Tryd.pinned (.plain (OpenSpec.ofChange groveTellsSpec)) groveTellsCard

/-- THE TIED CARD OF 'dewpondlaw28.GroveSets'. -/
def groveSetsCard : Claim7 := { stood := { row := groveSetsRow, standIns := [], harness := (true, "5474a434b132d5ed57ec0cbcd781c8f0b1cc43c31161f5d42cc372f9200464eb"), looks := false }, kinds := [], alts := [], laidByText := true, laidKinds := [.data], laidTests := true, laidLooks := .later }
def GroveSetsCardSaid : Prop := Claim7.holds Tryd.pinned (.plain (OpenSpec.ofChange groveSetsSpec)) groveSetsCard

/-- THE TIED CARD OF 'dewpondlaw28.GroveLaws'. -/
def groveLawsCard : Claim7 := { stood := { row := groveLawsRow, standIns := [], harness := (true, "5474a434b132d5ed57ec0cbcd781c8f0b1cc43c31161f5d42cc372f9200464eb"), looks := false }, kinds := [], alts := [], laidByText := true, laidKinds := [.data], laidTests := true, laidLooks := .later }
def GroveLawsCardSaid : Prop := Claim7.holds Tryd.pinned (.plain (OpenSpec.ofChange groveLawsSpec)) groveLawsCard

/-- THE TIED CARD OF 'dewpondlaw35.LineParses'. -/
def lineParsesCard : Claim7 := { stood := { row := lineParsesRow, standIns := [], harness := (true, "5474a434b132d5ed57ec0cbcd781c8f0b1cc43c31161f5d42cc372f9200464eb"), looks := false }, kinds := [], alts := [], laidByText := true, laidKinds := [.data, .widerDeep, .pinned], laidTests := true, laidLooks := .later }
def LineParsesCardSaid : Prop := Claim7.holds Tryd.pinned (.plain (OpenSpec.ofChange lineParsesSpec)) lineParsesCard

/-- THE TIED CARD OF 'dewpondlaw35.LineRemarks'. -/
def lineRemarksCard : Claim7 := { stood := { row := lineRemarksRow, standIns := [], harness := (true, "5474a434b132d5ed57ec0cbcd781c8f0b1cc43c31161f5d42cc372f9200464eb"), looks := false }, kinds := [], alts := [], laidByText := true, laidKinds := [.data, .widerDeep, .pinned], laidTests := true, laidLooks := .later }
def LineRemarksCardSaid : Prop := Claim7.holds Tryd.pinned (.plain (OpenSpec.ofChange lineRemarksSpec)) lineRemarksCard

/-- THE TIED CARD OF 'dewpondlaw35.LinePrints'. -/
def linePrintsCard : Claim7 := { stood := { row := linePrintsRow, standIns := [], harness := (true, "5474a434b132d5ed57ec0cbcd781c8f0b1cc43c31161f5d42cc372f9200464eb"), looks := false }, kinds := [], alts := [], laidByText := true, laidKinds := [.data, .widerDeep, .pinned], laidTests := true, laidLooks := .later }
def LinePrintsCardSaid : Prop := Claim7.holds Tryd.pinned (.plain (OpenSpec.ofChange linePrintsSpec)) linePrintsCard

/-- THE TIED CARD OF 'dewpondlaw35.LineBack'. -/
def lineBackCard : Claim7 := { stood := { row := lineBackRow, standIns := [], harness := (true, "5474a434b132d5ed57ec0cbcd781c8f0b1cc43c31161f5d42cc372f9200464eb"), looks := false }, kinds := [], alts := [], laidByText := true, laidKinds := [.data, .widerDeep, .pinned], laidTests := true, laidLooks := .later }
def LineBackCardSaid : Prop := Claim7.holds Tryd.pinned (.plain (OpenSpec.ofChange lineBackSpec)) lineBackCard

/-- THE SECOND FORM's CARD OF 'dewpondlaw28.GroveHangs'. -/
def groveHangsUptoCard : Claim7 := { stood := { row := groveHangsUptoRow, standIns := [], harness := (true, "5474a434b132d5ed57ec0cbcd781c8f0b1cc43c31161f5d42cc372f9200464eb"), looks := false }, kinds := [], alts := [], laidByText := true, laidKinds := [.data], laidTests := true, laidLooks := .later }
def GroveHangsUptoCardSaid : Prop := Claim7.holds Tryd.pinned (.plain (OpenSpec.upto groveHangsSpec)) groveHangsUptoCard

/-- THE SECOND FORM's CARD OF 'dewpondlaw28.GroveTells'. -/
def groveTellsUptoCard : Claim7 := { stood := { row := groveTellsUptoRow, standIns := [], harness := (true, "5474a434b132d5ed57ec0cbcd781c8f0b1cc43c31161f5d42cc372f9200464eb"), looks := false }, kinds := [], alts := [], laidByText := true, laidKinds := [.data], laidTests := true, laidLooks := .later }
def GroveTellsUptoCardSaid : Prop := Claim7.holds Tryd.pinned (.plain (OpenSpec.upto groveTellsSpec)) groveTellsUptoCard

/-- THE SECOND FORM's CARD OF 'dewpondlaw28.GroveSets'. -/
def groveSetsUptoCard : Claim7 := { stood := { row := groveSetsUptoRow, standIns := [], harness := (true, "5474a434b132d5ed57ec0cbcd781c8f0b1cc43c31161f5d42cc372f9200464eb"), looks := false }, kinds := [], alts := [], laidByText := true, laidKinds := [.data], laidTests := true, laidLooks := .later }
def GroveSetsUptoCardSaid : Prop := Claim7.holds Tryd.pinned (.plain (OpenSpec.upto groveSetsSpec)) groveSetsUptoCard

/-- THE SECOND FORM's CARD OF 'dewpondlaw28.GroveLaws'. -/
def groveLawsUptoCard : Claim7 := { stood := { row := groveLawsUptoRow, standIns := [], harness := (true, "5474a434b132d5ed57ec0cbcd781c8f0b1cc43c31161f5d42cc372f9200464eb"), looks := false }, kinds := [], alts := [], laidByText := true, laidKinds := [.data], laidTests := true, laidLooks := .later }
def GroveLawsUptoCardSaid : Prop := Claim7.holds Tryd.pinned (.plain (OpenSpec.upto groveLawsSpec)) groveLawsUptoCard

/-- THE SECOND FORM's CARD OF 'dewpondlaw35.LineParses'. -/
def lineParsesUptoCard : Claim7 := { stood := { row := lineParsesUptoRow, standIns := [], harness := (true, "5474a434b132d5ed57ec0cbcd781c8f0b1cc43c31161f5d42cc372f9200464eb"), looks := false }, kinds := [], alts := [], laidByText := true, laidKinds := [.data, .widerDeep, .pinned], laidTests := true, laidLooks := .later }
def LineParsesUptoCardSaid : Prop := Claim7.holds Tryd.pinned (.plain (OpenSpec.upto lineParsesSpec)) lineParsesUptoCard

/-- THE SECOND FORM's CARD OF 'dewpondlaw35.LineRemarks'. -/
def lineRemarksUptoCard : Claim7 := { stood := { row := lineRemarksUptoRow, standIns := [], harness := (true, "5474a434b132d5ed57ec0cbcd781c8f0b1cc43c31161f5d42cc372f9200464eb"), looks := false }, kinds := [], alts := [], laidByText := true, laidKinds := [.data, .widerDeep, .pinned], laidTests := true, laidLooks := .later }
def LineRemarksUptoCardSaid : Prop := Claim7.holds Tryd.pinned (.plain (OpenSpec.upto lineRemarksSpec)) lineRemarksUptoCard

/-- THE SECOND FORM's CARD OF 'dewpondlaw35.LinePrints'. -/
def linePrintsUptoCard : Claim7 := { stood := { row := linePrintsUptoRow, standIns := [], harness := (true, "5474a434b132d5ed57ec0cbcd781c8f0b1cc43c31161f5d42cc372f9200464eb"), looks := false }, kinds := [], alts := [], laidByText := true, laidKinds := [.data, .widerDeep, .pinned], laidTests := true, laidLooks := .later }
def LinePrintsUptoCardSaid : Prop := Claim7.holds Tryd.pinned (.plain (OpenSpec.upto linePrintsSpec)) linePrintsUptoCard

/-- THE SECOND FORM's CARD OF 'dewpondlaw35.LineBack'. -/
def lineBackUptoCard : Claim7 := { stood := { row := lineBackUptoRow, standIns := [], harness := (true, "5474a434b132d5ed57ec0cbcd781c8f0b1cc43c31161f5d42cc372f9200464eb"), looks := false }, kinds := [], alts := [], laidByText := true, laidKinds := [.data, .widerDeep, .pinned], laidTests := true, laidLooks := .later }
def LineBackUptoCardSaid : Prop := Claim7.holds Tryd.pinned (.plain (OpenSpec.upto lineBackSpec)) lineBackUptoCard
end Rows
end Go.Proofs.YtcpakoobgcdekaaDoor

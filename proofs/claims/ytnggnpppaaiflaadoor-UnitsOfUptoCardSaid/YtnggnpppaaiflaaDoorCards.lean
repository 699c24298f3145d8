/-
  DERIVED. GIVEN WITH THE SEED: THE CARDS: each row of YtnggnpppaaiflaaDoorRows.lean that lists a variable, with what it lists TIED to the program's text (the seventh form; the later family's looks); each row that meets fmt, with fmt's text TOLD by the authors' own Lean function (tested against real Go, not proved from fmt's source: count such statements apart). THE CARD IS WHAT COUNTS. Prove the row's statement (the work); the ties are given (YtnggnpppaaiflaaDoorTie.lean); close each card by the builder's one call (the guide's Derived/Test/ToyasCard.lean, 'card_holds'). Laid BY PROGRAM, IN A SANDBOX (cutbox-door.mjs). By AI agents, Wed Nov 11 2026. No macro, syntax, notation, axiom, sorry.
-/
import Derived.Test.YtnggnpppaaiflaaDoorRows
import GoSem.ClaimSeven
namespace Go.Proofs.YtnggnpppaaiflaaDoor
namespace Rows

/-- THE TIED CARD OF 'credenzalaw01.UnitsOf'. -/
def unitsOfCard : Claim7 := { stood := { row := unitsOfRow, standIns := [], harness := (true, "2aeaaed817726ea5304463acd9e9a4f61aaf7525217c41b4caa78380d1f862c7"), looks := true }, kinds := [], alts := [], laidByText := true, laidKinds := [.data, .data, .data, .data, .sentinel, .sentinel, .pinned], laidTests := true, laidLooks := .later }
def UnitsOfCardSaid : Prop := Claim7.holds Tryd.pinned (.plain (OpenSpec.ofChange unitsOfSpec)) unitsOfCard

/-- THE TIED CARD OF 'credenzalaw01.UnitsIndex'. -/
def unitsIndexCard : Claim7 := { stood := { row := unitsIndexRow, standIns := [], harness := (true, "2aeaaed817726ea5304463acd9e9a4f61aaf7525217c41b4caa78380d1f862c7"), looks := true }, kinds := [], alts := [], laidByText := true, laidKinds := [.data, .data, .data, .data, .sentinel, .sentinel, .pinned], laidTests := true, laidLooks := .later }
def UnitsIndexCardSaid : Prop := Claim7.holds Tryd.pinned (.plain (OpenSpec.ofChange unitsIndexSpec)) unitsIndexCard

/-- THE TIED CARD OF 'credenzalaw01.UnitsQuote'. -/
def unitsQuoteCard : Claim7 := { stood := { row := unitsQuoteRow, standIns := [], harness := (true, "2aeaaed817726ea5304463acd9e9a4f61aaf7525217c41b4caa78380d1f862c7"), looks := true }, kinds := [], alts := [], laidByText := true, laidKinds := [.data, .data, .data, .data, .sentinel, .sentinel, .pinned], laidTests := true, laidLooks := .later }
def UnitsQuoteCardSaid : Prop := Claim7.holds Tryd.pinned (.plain (OpenSpec.ofChange unitsQuoteSpec)) unitsQuoteCard

/-- THE TIED CARD OF 'credenzalaw01.UnitsRead'. -/
def unitsReadCard : Claim7 := { stood := { row := unitsReadRow, standIns := [], harness := (true, "2aeaaed817726ea5304463acd9e9a4f61aaf7525217c41b4caa78380d1f862c7"), looks := true }, kinds := [], alts := [], laidByText := true, laidKinds := [.data, .data, .data, .data, .sentinel, .sentinel, .pinned], laidTests := true, laidLooks := .later }
def UnitsReadCardSaid : Prop := Claim7.holds Tryd.pinned (.plain (OpenSpec.ofChange unitsReadSpec)) unitsReadCard

/-- THE TIED CARD OF 'credenzalaw01.UnitsBack'. -/
def unitsBackCard : Claim7 := { stood := { row := unitsBackRow, standIns := [], harness := (true, "2aeaaed817726ea5304463acd9e9a4f61aaf7525217c41b4caa78380d1f862c7"), looks := true }, kinds := [], alts := [], laidByText := true, laidKinds := [.data, .data, .data, .data, .sentinel, .sentinel, .pinned], laidTests := true, laidLooks := .later }
def UnitsBackCardSaid : Prop := Claim7.holds Tryd.pinned (.plain (OpenSpec.ofChange unitsBackSpec)) unitsBackCard

/-- THE TIED CARD OF 'credenzalaw01.UnitsJoin'. -/
def unitsJoinCard : Claim7 := { stood := { row := unitsJoinRow, standIns := [], harness := (true, "2aeaaed817726ea5304463acd9e9a4f61aaf7525217c41b4caa78380d1f862c7"), looks := true }, kinds := [], alts := [], laidByText := true, laidKinds := [.data, .data, .data, .data, .sentinel, .sentinel, .pinned], laidTests := true, laidLooks := .later }
def UnitsJoinCardSaid : Prop := Claim7.holds Tryd.pinned (.plain (OpenSpec.ofChange unitsJoinSpec)) unitsJoinCard

/-- THE TIED CARD OF 'credenzalaw01.UnitsLook'. -/
def unitsLookCard : Claim7 := { stood := { row := unitsLookRow, standIns := [], harness := (true, "2aeaaed817726ea5304463acd9e9a4f61aaf7525217c41b4caa78380d1f862c7"), looks := true }, kinds := [], alts := [], laidByText := true, laidKinds := [.data, .data, .data, .data, .sentinel, .sentinel, .pinned], laidTests := true, laidLooks := .later }
def UnitsLookCardSaid : Prop := Claim7.holds Tryd.pinned (.plain (OpenSpec.ofChange unitsLookSpec)) unitsLookCard

/-- THE TIED CARD OF 'credenzalaw01.UnitsParts'. -/
def unitsPartsCard : Claim7 := { stood := { row := unitsPartsRow, standIns := [], harness := (true, "2aeaaed817726ea5304463acd9e9a4f61aaf7525217c41b4caa78380d1f862c7"), looks := true }, kinds := [], alts := [], laidByText := true, laidKinds := [.data, .data, .data, .data, .sentinel, .sentinel, .pinned], laidTests := true, laidLooks := .later }
def UnitsPartsCardSaid : Prop := Claim7.holds Tryd.pinned (.plain (OpenSpec.ofChange unitsPartsSpec)) unitsPartsCard

/-- THE TIED CARD OF 'credenzalaw01.UnitsFound'. -/
def unitsFoundCard : Claim7 := { stood := { row := unitsFoundRow, standIns := [], harness := (true, "2aeaaed817726ea5304463acd9e9a4f61aaf7525217c41b4caa78380d1f862c7"), looks := true }, kinds := [], alts := [], laidByText := true, laidKinds := [.data, .data, .data, .data, .sentinel, .sentinel, .pinned], laidTests := true, laidLooks := .later }
def UnitsFoundCardSaid : Prop := Claim7.holds Tryd.pinned (.plain (OpenSpec.ofChange unitsFoundSpec)) unitsFoundCard

/-- THE SECOND FORM's CARD OF 'credenzalaw01.UnitsOf'. -/
def unitsOfUptoCard : Claim7 := { stood := { row := unitsOfUptoRow, standIns := [], harness := (true, "2aeaaed817726ea5304463acd9e9a4f61aaf7525217c41b4caa78380d1f862c7"), looks := true }, kinds := [], alts := [], laidByText := true, laidKinds := [.data, .data, .data, .data, .sentinel, .sentinel, .pinned], laidTests := true, laidLooks := .later }
def UnitsOfUptoCardSaid : Prop := Claim7.holds Tryd.pinned (.plain (OpenSpec.upto unitsOfSpec)) unitsOfUptoCard

/-- THE SECOND FORM's CARD OF 'credenzalaw01.UnitsIndex'. -/
def unitsIndexUptoCard : Claim7 := { stood := { row := unitsIndexUptoRow, standIns := [], harness := (true, "2aeaaed817726ea5304463acd9e9a4f61aaf7525217c41b4caa78380d1f862c7"), looks := true }, kinds := [], alts := [], laidByText := true, laidKinds := [.data, .data, .data, .data, .sentinel, .sentinel, .pinned], laidTests := true, laidLooks := .later }
def UnitsIndexUptoCardSaid : Prop := Claim7.holds Tryd.pinned (.plain (OpenSpec.upto unitsIndexSpec)) unitsIndexUptoCard

/-- THE SECOND FORM's CARD OF 'credenzalaw01.UnitsQuote'. -/
def unitsQuoteUptoCard : Claim7 := { stood := { row := unitsQuoteUptoRow, standIns := [], harness := (true, "2aeaaed817726ea5304463acd9e9a4f61aaf7525217c41b4caa78380d1f862c7"), looks := true }, kinds := [], alts := [], laidByText := true, laidKinds := [.data, .data, .data, .data, .sentinel, .sentinel, .pinned], laidTests := true, laidLooks := .later }
def UnitsQuoteUptoCardSaid : Prop := Claim7.holds Tryd.pinned (.plain (OpenSpec.upto unitsQuoteSpec)) unitsQuoteUptoCard

/-- THE SECOND FORM's CARD OF 'credenzalaw01.UnitsRead'. -/
def unitsReadUptoCard : Claim7 := { stood := { row := unitsReadUptoRow, standIns := [], harness := (true, "2aeaaed817726ea5304463acd9e9a4f61aaf7525217c41b4caa78380d1f862c7"), looks := true }, kinds := [], alts := [], laidByText := true, laidKinds := [.data, .data, .data, .data, .sentinel, .sentinel, .pinned], laidTests := true, laidLooks := .later }
def UnitsReadUptoCardSaid : Prop := Claim7.holds Tryd.pinned (.plain (OpenSpec.upto unitsReadSpec)) unitsReadUptoCard

/-- THE SECOND FORM's CARD OF 'credenzalaw01.UnitsBack'. -/
def unitsBackUptoCard : Claim7 := { stood := { row := unitsBackUptoRow, standIns := [], harness := (true, "2aeaaed817726ea5304463acd9e9a4f61aaf7525217c41b4caa78380d1f862c7"), looks := true }, kinds := [], alts := [], laidByText := true, laidKinds := [.data, .data, .data, .data, .sentinel, .sentinel, .pinned], laidTests := true, laidLooks := .later }
def UnitsBackUptoCardSaid : Prop := Claim7.holds Tryd.pinned (.plain (OpenSpec.upto unitsBackSpec)) unitsBackUptoCard

/-- THE SECOND FORM's CARD OF 'credenzalaw01.UnitsJoin'. -/
def unitsJoinUptoCard : Claim7 := { stood := { row := unitsJoinUptoRow, standIns := [], harness := (true, "2aeaaed817726ea5304463acd9e9a4f61aaf7525217c41b4caa78380d1f862c7"), looks := true }, kinds := [], alts := [], laidByText := true, laidKinds := [.data, .data, .data, .data, .sentinel, .sentinel, .pinned], laidTests := true, laidLooks := .later }
def UnitsJoinUptoCardSaid : Prop := Claim7.holds Tryd.pinned (.plain (OpenSpec.upto unitsJoinSpec)) unitsJoinUptoCard

/-- THE SECOND FORM's CARD OF 'credenzalaw01.UnitsLook'. -/
def unitsLookUptoCard : Claim7 := { stood := { row := unitsLookUptoRow, standIns := [], harness := (true, "2aeaaed817726ea5304463acd9e9a4f61aaf7525217c41b4caa78380d1f862c7"), looks := true }, kinds := [], alts := [], laidByText := true, laidKinds := [.data, .data, .data, .data, .sentinel, .sentinel, .pinned], laidTests := true, laidLooks := .later }
def UnitsLookUptoCardSaid : Prop := Claim7.holds Tryd.pinned (.plain (OpenSpec.upto unitsLookSpec)) unitsLookUptoCard

/-- THE SECOND FORM's CARD OF 'credenzalaw01.UnitsParts'. -/
def unitsPartsUptoCard : Claim7 := { stood := { row := unitsPartsUptoRow, standIns := [], harness := (true, "2aeaaed817726ea5304463acd9e9a4f61aaf7525217c41b4caa78380d1f862c7"), looks := true }, kinds := [], alts := [], laidByText := true, laidKinds := [.data, .data, .data, .data, .sentinel, .sentinel, .pinned], laidTests := true, laidLooks := .later }
def UnitsPartsUptoCardSaid : Prop := Claim7.holds Tryd.pinned (.plain (OpenSpec.upto unitsPartsSpec)) unitsPartsUptoCard

/-- THE SECOND FORM's CARD OF 'credenzalaw01.UnitsFound'. -/
def unitsFoundUptoCard : Claim7 := { stood := { row := unitsFoundUptoRow, standIns := [], harness := (true, "2aeaaed817726ea5304463acd9e9a4f61aaf7525217c41b4caa78380d1f862c7"), looks := true }, kinds := [], alts := [], laidByText := true, laidKinds := [.data, .data, .data, .data, .sentinel, .sentinel, .pinned], laidTests := true, laidLooks := .later }
def UnitsFoundUptoCardSaid : Prop := Claim7.holds Tryd.pinned (.plain (OpenSpec.upto unitsFoundSpec)) unitsFoundUptoCard
end Rows
end Go.Proofs.YtnggnpppaaiflaaDoor

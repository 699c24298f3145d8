/-
  DERIVED. GIVEN WITH THE SEED: THE CARDS: each row of YtfankedlhjnpfaaDoorRows.lean that lists a variable, with what it lists TIED to the program's text (the seventh form; the later family's looks); each row that meets fmt, with fmt's text TOLD by the authors' own Lean function (tested against real Go, not proved from fmt's source: count such statements apart). THE CARD IS WHAT COUNTS. Prove the row's statement (the work); the ties are given (YtfankedlhjnpfaaDoorTie.lean); close each card by the builder's one call (the guide's Derived/Test/ToyasCard.lean, 'card_holds'). Laid BY PROGRAM, IN A SANDBOX (cutbox-door.mjs). By AI agents, Wed Nov 11 2026. No macro, syntax, notation, axiom, sorry.
-/
import Derived.Test.YtfankedlhjnpfaaDoorRows
import GoSem.ClaimSeven
namespace Go.Proofs.YtfankedlhjnpfaaDoor
namespace Rows

/-- THE TIED CARD OF 'credenzalaw05.OrderReads'. -/
def orderReadsCard : Claim7 := { stood := { row := orderReadsRow, standIns := [], harness := (true, "d10c488ce5fa50800ef58b28520818da7c857d607d9e0bdb3a923f7fd47a4a20"), looks := false }, kinds := [], alts := [], laidByText := true, laidKinds := [.data, .pinned], laidTests := true, laidLooks := .later }
def OrderReadsCardSaid : Prop := Claim7.holds Tryd.pinned (.plain (OpenSpec.ofChange orderReadsSpec)) orderReadsCard

/-- THE TIED CARD OF 'credenzalaw05.OrderCompares'. -/
def orderComparesCard : Claim7 := { stood := { row := orderComparesRow, standIns := [], harness := (true, "d10c488ce5fa50800ef58b28520818da7c857d607d9e0bdb3a923f7fd47a4a20"), looks := false }, kinds := [], alts := [], laidByText := true, laidKinds := [.data, .pinned], laidTests := true, laidLooks := .later }
def OrderComparesCardSaid : Prop := Claim7.holds Tryd.pinned (.plain (OpenSpec.ofChange orderComparesSpec)) orderComparesCard

/-- THE TIED CARD OF 'credenzalaw05.OrderKeeps'. -/
def orderKeepsCard : Claim7 := { stood := { row := orderKeepsRow, standIns := [], harness := (true, "d10c488ce5fa50800ef58b28520818da7c857d607d9e0bdb3a923f7fd47a4a20"), looks := false }, kinds := [], alts := [], laidByText := true, laidKinds := [.data, .pinned], laidTests := true, laidLooks := .later }
def OrderKeepsCardSaid : Prop := Claim7.holds Tryd.pinned (.plain (OpenSpec.ofChange orderKeepsSpec)) orderKeepsCard

/-- THE TIED CARD OF 'credenzalaw05.OrderBack'. -/
def orderBackCard : Claim7 := { stood := { row := orderBackRow, standIns := [], harness := (true, "d10c488ce5fa50800ef58b28520818da7c857d607d9e0bdb3a923f7fd47a4a20"), looks := false }, kinds := [], alts := [], laidByText := true, laidKinds := [.data, .pinned], laidTests := true, laidLooks := .later }
def OrderBackCardSaid : Prop := Claim7.holds Tryd.pinned (.plain (OpenSpec.ofChange orderBackSpec)) orderBackCard

/-- THE TIED CARD OF 'credenzalaw05.OrderTotal'. -/
def orderTotalCard : Claim7 := { stood := { row := orderTotalRow, standIns := [], harness := (true, "d10c488ce5fa50800ef58b28520818da7c857d607d9e0bdb3a923f7fd47a4a20"), looks := false }, kinds := [], alts := [], laidByText := true, laidKinds := [.data, .pinned], laidTests := true, laidLooks := .later }
def OrderTotalCardSaid : Prop := Claim7.holds Tryd.pinned (.plain (OpenSpec.ofChange orderTotalSpec)) orderTotalCard

/-- THE TIED CARD OF 'credenzalaw05.OrderWithin'. -/
def orderWithinCard : Claim7 := { stood := { row := orderWithinRow, standIns := [], harness := (true, "d10c488ce5fa50800ef58b28520818da7c857d607d9e0bdb3a923f7fd47a4a20"), looks := false }, kinds := [], alts := [], laidByText := true, laidKinds := [.data, .pinned], laidTests := true, laidLooks := .later }
def OrderWithinCardSaid : Prop := Claim7.holds Tryd.pinned (.plain (OpenSpec.ofChange orderWithinSpec)) orderWithinCard

/-- THE TIED CARD OF 'credenzalaw05.OrderWrites'. -/
def orderWritesCard : Claim7 := { stood := { row := orderWritesRow, standIns := [], harness := (true, "d10c488ce5fa50800ef58b28520818da7c857d607d9e0bdb3a923f7fd47a4a20"), looks := false }, kinds := [], alts := [], laidByText := true, laidKinds := [.data, .pinned], laidTests := true, laidLooks := .later }
def OrderWritesCardSaid : Prop := Claim7.holds Tryd.pinned (.plain (OpenSpec.ofChange orderWritesSpec)) orderWritesCard

/-- THE SECOND FORM's CARD OF 'credenzalaw05.OrderReads'. -/
def orderReadsUptoCard : Claim7 := { stood := { row := orderReadsUptoRow, standIns := [], harness := (true, "d10c488ce5fa50800ef58b28520818da7c857d607d9e0bdb3a923f7fd47a4a20"), looks := false }, kinds := [], alts := [], laidByText := true, laidKinds := [.data, .pinned], laidTests := true, laidLooks := .later }
def OrderReadsUptoCardSaid : Prop := Claim7.holds Tryd.pinned (.plain (OpenSpec.upto orderReadsSpec)) orderReadsUptoCard

/-- THE SECOND FORM's CARD OF 'credenzalaw05.OrderCompares'. -/
def orderComparesUptoCard : Claim7 := { stood := { row := orderComparesUptoRow, standIns := [], harness := (true, "d10c488ce5fa50800ef58b28520818da7c857d607d9e0bdb3a923f7fd47a4a20"), looks := false }, kinds := [], alts := [], laidByText := true, laidKinds := [.data, .pinned], laidTests := true, laidLooks := .later }
def OrderComparesUptoCardSaid : Prop := Claim7.holds Tryd.pinned (.plain (OpenSpec.upto orderComparesSpec)) orderComparesUptoCard

/-- THE SECOND FORM's CARD OF 'credenzalaw05.OrderKeeps'. -/
def orderKeepsUptoCard : Claim7 := { stood := { row := orderKeepsUptoRow, standIns := [], harness := (true, "d10c488ce5fa50800ef58b28520818da7c857d607d9e0bdb3a923f7fd47a4a20"), looks := false }, kinds := [], alts := [], laidByText := true, laidKinds := [.data, .pinned], laidTests := true, laidLooks := .later }
def OrderKeepsUptoCardSaid : Prop := Claim7.holds Tryd.pinned (.plain (OpenSpec.upto orderKeepsSpec)) orderKeepsUptoCard

/-- THE SECOND FORM's CARD OF 'credenzalaw05.OrderBack'. -/
def orderBackUptoCard : Claim7 := { stood := { row := orderBackUptoRow, standIns := [], harness := (true, "d10c488ce5fa50800ef58b28520818da7c857d607d9e0bdb3a923f7fd47a4a20"), looks := false }, kinds := [], alts := [], laidByText := true, laidKinds := [.data, .pinned], laidTests := true, laidLooks := .later }
def OrderBackUptoCardSaid : Prop := Claim7.holds Tryd.pinned (.plain (OpenSpec.upto orderBackSpec)) orderBackUptoCard

/-- THE SECOND FORM's CARD OF 'credenzalaw05.OrderTotal'. -/
def orderTotalUptoCard : Claim7 := { stood := { row := orderTotalUptoRow, standIns := [], harness := (true, "d10c488ce5fa50800ef58b28520818da7c857d607d9e0bdb3a923f7fd47a4a20"), looks := false }, kinds := [], alts := [], laidByText := true, laidKinds := [.data, .pinned], laidTests := true, laidLooks := .later }
def OrderTotalUptoCardSaid : Prop := Claim7.holds Tryd.pinned (.plain (OpenSpec.upto orderTotalSpec)) orderTotalUptoCard

/-- THE SECOND FORM's CARD OF 'credenzalaw05.OrderWithin'. -/
def orderWithinUptoCard : Claim7 := { stood := { row := orderWithinUptoRow, standIns := [], harness := (true, "d10c488ce5fa50800ef58b28520818da7c857d607d9e0bdb3a923f7fd47a4a20"), looks := false }, kinds := [], alts := [], laidByText := true, laidKinds := [.data, .pinned], laidTests := true, laidLooks := .later }
def OrderWithinUptoCardSaid : Prop := Claim7.holds Tryd.pinned (.plain (OpenSpec.upto orderWithinSpec)) orderWithinUptoCard

/-- THE SECOND FORM's CARD OF 'credenzalaw05.OrderWrites'. -/
def orderWritesUptoCard : Claim7 := { stood := { row := orderWritesUptoRow, standIns := [], harness := (true, "d10c488ce5fa50800ef58b28520818da7c857d607d9e0bdb3a923f7fd47a4a20"), looks := false }, kinds := [], alts := [], laidByText := true, laidKinds := [.data, .pinned], laidTests := true, laidLooks := .later }
def OrderWritesUptoCardSaid : Prop := Claim7.holds Tryd.pinned (.plain (OpenSpec.upto orderWritesSpec)) orderWritesUptoCard
end Rows
end Go.Proofs.YtfankedlhjnpfaaDoor

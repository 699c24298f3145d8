/-
  DERIVED. GIVEN WITH THE SEED: THE CARDS: each row of YtmbdlfemlbbjfaaDoorRows.lean that lists a variable, with what it lists TIED to the program's text (the seventh form; the later family's looks); each row that meets fmt, with fmt's text TOLD by the authors' own Lean function (tested against real Go, not proved from fmt's source: count such statements apart). THE CARD IS WHAT COUNTS. Prove the row's statement (the work); the ties are given (YtmbdlfemlbbjfaaDoorTie.lean); close each card by the builder's one call (the guide's Derived/Test/ToyasCard.lean, 'card_holds'). Laid BY PROGRAM, IN A SANDBOX (cutbox-door.mjs). By AI agents, Wed Nov 11 2026. No macro, syntax, notation, axiom, sorry.
-/
import Derived.Test.YtmbdlfemlbbjfaaDoorRows
import GoSem.ClaimSeven
namespace Go.Proofs.YtmbdlfemlbbjfaaDoor
namespace Rows

/-- THE TIED CARD OF 'credenzalaw06.TokenWords'. -/
def tokenWordsCard : Claim7 := { stood := { row := tokenWordsRow, standIns := [], harness := (true, "a9ea0f6a636c974ba33bb422f11f838c6529d2285ac4e62ea4819efc6b7d3dad"), looks := true }, kinds := [], alts := [], laidByText := true, laidKinds := [.data, .data, .data, .data, .sentinel, .sentinel, .pinned], laidTests := true, laidLooks := .later }
def TokenWordsCardSaid : Prop := Claim7.holds Tryd.pinned (.plain (OpenSpec.ofChange tokenWordsSpec)) tokenWordsCard

/-- THE TIED CARD OF 'credenzalaw06.TokenCuts'. -/
def tokenCutsCard : Claim7 := { stood := { row := tokenCutsRow, standIns := [], harness := (true, "a9ea0f6a636c974ba33bb422f11f838c6529d2285ac4e62ea4819efc6b7d3dad"), looks := true }, kinds := [], alts := [], laidByText := true, laidKinds := [.data, .data, .data, .data, .sentinel, .sentinel, .pinned], laidTests := true, laidLooks := .later }
def TokenCutsCardSaid : Prop := Claim7.holds Tryd.pinned (.plain (OpenSpec.ofChange tokenCutsSpec)) tokenCutsCard

/-- THE TIED CARD OF 'credenzalaw06.TokenFresh'. -/
def tokenFreshCard : Claim7 := { stood := { row := tokenFreshRow, standIns := [], harness := (true, "a9ea0f6a636c974ba33bb422f11f838c6529d2285ac4e62ea4819efc6b7d3dad"), looks := true }, kinds := [], alts := [], laidByText := true, laidKinds := [.data, .data, .data, .data, .sentinel, .sentinel, .pinned], laidTests := true, laidLooks := .later }
def TokenFreshCardSaid : Prop := Claim7.holds Tryd.pinned (.plain (OpenSpec.ofChange tokenFreshSpec)) tokenFreshCard

/-- THE TIED CARD OF 'credenzalaw06.TokenRises'. -/
def tokenRisesCard : Claim7 := { stood := { row := tokenRisesRow, standIns := [], harness := (true, "a9ea0f6a636c974ba33bb422f11f838c6529d2285ac4e62ea4819efc6b7d3dad"), looks := true }, kinds := [], alts := [], laidByText := true, laidKinds := [.data, .data, .data, .data, .sentinel, .sentinel, .pinned], laidTests := true, laidLooks := .later }
def TokenRisesCardSaid : Prop := Claim7.holds Tryd.pinned (.plain (OpenSpec.ofChange tokenRisesSpec)) tokenRisesCard

/-- THE TIED CARD OF 'credenzalaw06.TokenJoins'. -/
def tokenJoinsCard : Claim7 := { stood := { row := tokenJoinsRow, standIns := [], harness := (true, "a9ea0f6a636c974ba33bb422f11f838c6529d2285ac4e62ea4819efc6b7d3dad"), looks := true }, kinds := [], alts := [], laidByText := true, laidKinds := [.data, .data, .data, .data, .sentinel, .sentinel, .pinned], laidTests := true, laidLooks := .later }
def TokenJoinsCardSaid : Prop := Claim7.holds Tryd.pinned (.plain (OpenSpec.ofChange tokenJoinsSpec)) tokenJoinsCard

/-- THE SECOND FORM's CARD OF 'credenzalaw06.TokenWords'. -/
def tokenWordsUptoCard : Claim7 := { stood := { row := tokenWordsUptoRow, standIns := [], harness := (true, "a9ea0f6a636c974ba33bb422f11f838c6529d2285ac4e62ea4819efc6b7d3dad"), looks := true }, kinds := [], alts := [], laidByText := true, laidKinds := [.data, .data, .data, .data, .sentinel, .sentinel, .pinned], laidTests := true, laidLooks := .later }
def TokenWordsUptoCardSaid : Prop := Claim7.holds Tryd.pinned (.plain (OpenSpec.upto tokenWordsSpec)) tokenWordsUptoCard

/-- THE SECOND FORM's CARD OF 'credenzalaw06.TokenCuts'. -/
def tokenCutsUptoCard : Claim7 := { stood := { row := tokenCutsUptoRow, standIns := [], harness := (true, "a9ea0f6a636c974ba33bb422f11f838c6529d2285ac4e62ea4819efc6b7d3dad"), looks := true }, kinds := [], alts := [], laidByText := true, laidKinds := [.data, .data, .data, .data, .sentinel, .sentinel, .pinned], laidTests := true, laidLooks := .later }
def TokenCutsUptoCardSaid : Prop := Claim7.holds Tryd.pinned (.plain (OpenSpec.upto tokenCutsSpec)) tokenCutsUptoCard

/-- THE SECOND FORM's CARD OF 'credenzalaw06.TokenFresh'. -/
def tokenFreshUptoCard : Claim7 := { stood := { row := tokenFreshUptoRow, standIns := [], harness := (true, "a9ea0f6a636c974ba33bb422f11f838c6529d2285ac4e62ea4819efc6b7d3dad"), looks := true }, kinds := [], alts := [], laidByText := true, laidKinds := [.data, .data, .data, .data, .sentinel, .sentinel, .pinned], laidTests := true, laidLooks := .later }
def TokenFreshUptoCardSaid : Prop := Claim7.holds Tryd.pinned (.plain (OpenSpec.upto tokenFreshSpec)) tokenFreshUptoCard

/-- THE SECOND FORM's CARD OF 'credenzalaw06.TokenRises'. -/
def tokenRisesUptoCard : Claim7 := { stood := { row := tokenRisesUptoRow, standIns := [], harness := (true, "a9ea0f6a636c974ba33bb422f11f838c6529d2285ac4e62ea4819efc6b7d3dad"), looks := true }, kinds := [], alts := [], laidByText := true, laidKinds := [.data, .data, .data, .data, .sentinel, .sentinel, .pinned], laidTests := true, laidLooks := .later }
def TokenRisesUptoCardSaid : Prop := Claim7.holds Tryd.pinned (.plain (OpenSpec.upto tokenRisesSpec)) tokenRisesUptoCard

/-- THE SECOND FORM's CARD OF 'credenzalaw06.TokenJoins'. -/
def tokenJoinsUptoCard : Claim7 := { stood := { row := tokenJoinsUptoRow, standIns := [], harness := (true, "a9ea0f6a636c974ba33bb422f11f838c6529d2285ac4e62ea4819efc6b7d3dad"), looks := true }, kinds := [], alts := [], laidByText := true, laidKinds := [.data, .data, .data, .data, .sentinel, .sentinel, .pinned], laidTests := true, laidLooks := .later }
def TokenJoinsUptoCardSaid : Prop := Claim7.holds Tryd.pinned (.plain (OpenSpec.upto tokenJoinsSpec)) tokenJoinsUptoCard
end Rows
end Go.Proofs.YtmbdlfemlbbjfaaDoor

/-
  DERIVED. GIVEN WITH THE SEED: THE CARDS: each row of YtbicgpcndhppdaaDoorRows.lean that lists a variable, with what it lists TIED to the program's text (the seventh form; the later family's looks); each row that meets fmt, with fmt's text TOLD by the authors' own Lean function (tested against real Go, not proved from fmt's source: count such statements apart). THE CARD IS WHAT COUNTS. Prove the row's statement (the work); the ties are given (YtbicgpcndhppdaaDoorTie.lean); close each card by the builder's one call (the guide's Derived/Test/ToyasCard.lean, 'card_holds'). Laid BY PROGRAM, IN A SANDBOX (cutbox-door.mjs). By AI agents, Wed Nov 11 2026. No macro, syntax, notation, axiom, sorry.
-/
import Derived.Test.YtbicgpcndhppdaaDoorRows
import GoSem.ClaimSeven
namespace Go.Proofs.YtbicgpcndhppdaaDoor
namespace Rows

/-- THE TIED CARD OF 'credenzalaw06.TokenFresh'. -/
def tokenFreshCard : Claim7 := { stood := { row := tokenFreshRow, standIns := [], harness := (true, "7cc2743af2c1588bb928aade0f7b9346043b06012a4b02ae8e8a5f8549d1649a"), looks := true }, kinds := [], alts := [], laidByText := true, laidKinds := [.data, .data, .data, .data, .sentinel, .sentinel, .pinned], laidTests := true, laidLooks := .later }
def TokenFreshCardSaid : Prop := Claim7.holds Tryd.pinned (.plain (OpenSpec.ofChange tokenFreshSpec)) tokenFreshCard

/-- THE SECOND FORM's CARD OF 'credenzalaw06.TokenFresh'. -/
def tokenFreshUptoCard : Claim7 := { stood := { row := tokenFreshUptoRow, standIns := [], harness := (true, "7cc2743af2c1588bb928aade0f7b9346043b06012a4b02ae8e8a5f8549d1649a"), looks := true }, kinds := [], alts := [], laidByText := true, laidKinds := [.data, .data, .data, .data, .sentinel, .sentinel, .pinned], laidTests := true, laidLooks := .later }
def TokenFreshUptoCardSaid : Prop := Claim7.holds Tryd.pinned (.plain (OpenSpec.upto tokenFreshSpec)) tokenFreshUptoCard
end Rows
end Go.Proofs.YtbicgpcndhppdaaDoor

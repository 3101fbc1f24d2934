/-
  DERIVED. GIVEN WITH THE SEED: THE CARDS: each row of YtbigpkfdeaigeaaDoorRows.lean that lists a variable, with what it lists TIED to the program's text (the seventh form; the later family's looks); each row that meets fmt, with fmt's text TOLD by the authors' own Lean function (tested against real Go, not proved from fmt's source: count such statements apart). THE CARD IS WHAT COUNTS. Prove the row's statement (the work); the ties are given (YtbigpkfdeaigeaaDoorTie.lean); close each card by the builder's one call (the guide's Derived/Test/ToyasCard.lean, 'card_holds'). Laid BY PROGRAM, IN A SANDBOX (cutbox-door.mjs). By AI agents, Wed Nov 11 2026. No macro, syntax, notation, axiom, sorry.
-/
import Derived.Test.YtbigpkfdeaigeaaDoorRows
import GoSem.ClaimSeven
namespace Go.Proofs.YtbigpkfdeaigeaaDoor
namespace Rows

/-- THE TIED CARD OF 'laws.FnResults'. -/
def fnResultsCard : Claim7 := { stood := { row := fnResultsRow, standIns := [], harness := (true, "f2b01d56090ab1ab9965023bb51316ee639e430a9ab010154ef0cbae963f008e"), looks := true }, kinds := [], alts := [], laidByText := true, laidKinds := [.data, .data, .data], laidTests := true, laidLooks := .later }
def FnResultsCardSaid : Prop := Claim7.holds Tryd.pinned (.plain (OpenSpec.ofChange fnResultsSpec)) fnResultsCard

/-- THE TIED CARD OF 'laws.FnProgram'. -/
def fnProgramCard : Claim7 := { stood := { row := fnProgramRow, standIns := [], harness := (true, "f2b01d56090ab1ab9965023bb51316ee639e430a9ab010154ef0cbae963f008e"), looks := true }, kinds := [], alts := [], laidByText := true, laidKinds := [.data, .data, .data, .sentinel, .sentinel, .data], laidTests := true, laidLooks := .later }
def FnProgramCardSaid : Prop := Claim7.holds Tryd.pinned (.plain (OpenSpec.ofChange fnProgramSpec)) fnProgramCard

/-- THE SECOND FORM's CARD OF 'laws.FnResults'. -/
def fnResultsUptoCard : Claim7 := { stood := { row := fnResultsUptoRow, standIns := [], harness := (true, "f2b01d56090ab1ab9965023bb51316ee639e430a9ab010154ef0cbae963f008e"), looks := true }, kinds := [], alts := [], laidByText := true, laidKinds := [.data, .data, .data], laidTests := true, laidLooks := .later }
def FnResultsUptoCardSaid : Prop := Claim7.holds Tryd.pinned (.plain (OpenSpec.upto fnResultsSpec)) fnResultsUptoCard

/-- THE SECOND FORM's CARD OF 'laws.FnProgram'. -/
def fnProgramUptoCard : Claim7 := { stood := { row := fnProgramUptoRow, standIns := [], harness := (true, "f2b01d56090ab1ab9965023bb51316ee639e430a9ab010154ef0cbae963f008e"), looks := true }, kinds := [], alts := [], laidByText := true, laidKinds := [.data, .data, .data, .sentinel, .sentinel, .data], laidTests := true, laidLooks := .later }
def FnProgramUptoCardSaid : Prop := Claim7.holds Tryd.pinned (.plain (OpenSpec.upto fnProgramSpec)) fnProgramUptoCard
end Rows
end Go.Proofs.YtbigpkfdeaigeaaDoor

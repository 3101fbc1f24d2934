/-
  DERIVED. GIVEN WITH THE SEED: THE CARDS: each row of YtehhjbomdohgoaaDoorRows.lean that lists a variable, with what it lists TIED to the program's text (the seventh form; the later family's looks); each row that meets fmt, with fmt's text TOLD by the authors' own Lean function (tested against real Go, not proved from fmt's source: count such statements apart). THE CARD IS WHAT COUNTS. Prove the row's statement (the work); the ties are given (YtehhjbomdohgoaaDoorTie.lean); close each card by the builder's one call (the guide's Derived/Test/ToyasCard.lean, 'card_holds'). Laid BY PROGRAM, IN A SANDBOX (cutbox-door.mjs). By AI agents, Wed Nov 11 2026. No macro, syntax, notation, axiom, sorry.
-/
import Derived.Test.YtehhjbomdohgoaaDoorRows
import GoSem.ClaimSeven
namespace Go.Proofs.YtehhjbomdohgoaaDoor
namespace Rows

/-- THE TIED CARD OF 'laws.FnResults'. -/
def fnResultsCard : Claim7 := { stood := { row := fnResultsRow, standIns := [], harness := (true, "124507f71acaec2c05c55379326a5bc448aacb05dc1211e311f4cfd8050c3fbf"), looks := true }, kinds := [], alts := [], laidByText := true, laidKinds := [.data, .data, .data], laidTests := true, laidLooks := .later }
def FnResultsCardSaid : Prop := Claim7.holds Tryd.pinned (.plain (OpenSpec.ofChange fnResultsSpec)) fnResultsCard

/-- THE TIED CARD OF 'laws.FnExactPrintProgram'. -/
def fnExactPrintProgramCard : Claim7 := { stood := { row := fnExactPrintProgramRow, standIns := [], harness := (true, "124507f71acaec2c05c55379326a5bc448aacb05dc1211e311f4cfd8050c3fbf"), looks := true }, kinds := [], alts := [], laidByText := true, laidKinds := [.data, .data, .data, .data], laidTests := true, laidLooks := .later }
def FnExactPrintProgramCardSaid : Prop := Claim7.holds Tryd.pinned (.plain (OpenSpec.ofChange fnExactPrintProgramSpec)) fnExactPrintProgramCard

/-- THE TIED CARD OF 'laws.FnExactNext'. -/
def fnExactNextCard : Claim7 := { stood := { row := fnExactNextRow, standIns := [], harness := (true, "124507f71acaec2c05c55379326a5bc448aacb05dc1211e311f4cfd8050c3fbf"), looks := true }, kinds := [], alts := [], laidByText := true, laidKinds := [.data, .data, .data], laidTests := true, laidLooks := .later }
def FnExactNextCardSaid : Prop := Claim7.holds Tryd.pinned (.plain (OpenSpec.ofChange fnExactNextSpec)) fnExactNextCard

/-- THE TIED CARD OF 'laws.FnExactFormAccount'. -/
def fnExactFormAccountCard : Claim7 := { stood := { row := fnExactFormAccountRow, standIns := [], harness := (true, "124507f71acaec2c05c55379326a5bc448aacb05dc1211e311f4cfd8050c3fbf"), looks := true }, kinds := [], alts := [], laidByText := true, laidKinds := [.data, .data, .data, .data], laidTests := true, laidLooks := .later }
def FnExactFormAccountCardSaid : Prop := Claim7.holds Tryd.pinned (.plain (OpenSpec.ofChange fnExactFormAccountSpec)) fnExactFormAccountCard

/-- THE TIED CARD OF 'laws.FnExactParseProgram'. -/
def fnExactParseProgramCard : Claim7 := { stood := { row := fnExactParseProgramRow, standIns := [], harness := (true, "124507f71acaec2c05c55379326a5bc448aacb05dc1211e311f4cfd8050c3fbf"), looks := true }, kinds := [], alts := [], laidByText := true, laidKinds := [.data, .data, .data, .sentinel, .sentinel, .data], laidTests := true, laidLooks := .later }
def FnExactParseProgramCardSaid : Prop := Claim7.holds Tryd.pinned (.plain (OpenSpec.ofChange fnExactParseProgramSpec)) fnExactParseProgramCard

/-- THE SECOND FORM's CARD OF 'laws.FnResults'. -/
def fnResultsUptoCard : Claim7 := { stood := { row := fnResultsUptoRow, standIns := [], harness := (true, "124507f71acaec2c05c55379326a5bc448aacb05dc1211e311f4cfd8050c3fbf"), looks := true }, kinds := [], alts := [], laidByText := true, laidKinds := [.data, .data, .data], laidTests := true, laidLooks := .later }
def FnResultsUptoCardSaid : Prop := Claim7.holds Tryd.pinned (.plain (OpenSpec.upto fnResultsSpec)) fnResultsUptoCard

/-- THE SECOND FORM's CARD OF 'laws.FnExactPrintProgram'. -/
def fnExactPrintProgramUptoCard : Claim7 := { stood := { row := fnExactPrintProgramUptoRow, standIns := [], harness := (true, "124507f71acaec2c05c55379326a5bc448aacb05dc1211e311f4cfd8050c3fbf"), looks := true }, kinds := [], alts := [], laidByText := true, laidKinds := [.data, .data, .data, .data], laidTests := true, laidLooks := .later }
def FnExactPrintProgramUptoCardSaid : Prop := Claim7.holds Tryd.pinned (.plain (OpenSpec.upto fnExactPrintProgramSpec)) fnExactPrintProgramUptoCard

/-- THE SECOND FORM's CARD OF 'laws.FnExactNext'. -/
def fnExactNextUptoCard : Claim7 := { stood := { row := fnExactNextUptoRow, standIns := [], harness := (true, "124507f71acaec2c05c55379326a5bc448aacb05dc1211e311f4cfd8050c3fbf"), looks := true }, kinds := [], alts := [], laidByText := true, laidKinds := [.data, .data, .data], laidTests := true, laidLooks := .later }
def FnExactNextUptoCardSaid : Prop := Claim7.holds Tryd.pinned (.plain (OpenSpec.upto fnExactNextSpec)) fnExactNextUptoCard

/-- THE SECOND FORM's CARD OF 'laws.FnExactFormAccount'. -/
def fnExactFormAccountUptoCard : Claim7 := { stood := { row := fnExactFormAccountUptoRow, standIns := [], harness := (true, "124507f71acaec2c05c55379326a5bc448aacb05dc1211e311f4cfd8050c3fbf"), looks := true }, kinds := [], alts := [], laidByText := true, laidKinds := [.data, .data, .data, .data], laidTests := true, laidLooks := .later }
def FnExactFormAccountUptoCardSaid : Prop := Claim7.holds Tryd.pinned (.plain (OpenSpec.upto fnExactFormAccountSpec)) fnExactFormAccountUptoCard

/-- THE SECOND FORM's CARD OF 'laws.FnExactParseProgram'. -/
def fnExactParseProgramUptoCard : Claim7 := { stood := { row := fnExactParseProgramUptoRow, standIns := [], harness := (true, "124507f71acaec2c05c55379326a5bc448aacb05dc1211e311f4cfd8050c3fbf"), looks := true }, kinds := [], alts := [], laidByText := true, laidKinds := [.data, .data, .data, .sentinel, .sentinel, .data], laidTests := true, laidLooks := .later }
def FnExactParseProgramUptoCardSaid : Prop := Claim7.holds Tryd.pinned (.plain (OpenSpec.upto fnExactParseProgramSpec)) fnExactParseProgramUptoCard
end Rows
end Go.Proofs.YtehhjbomdohgoaaDoor

/-
  DERIVED. GIVEN WITH THE SEED: THE CARDS: each row of YtiimabmdokpmbaaDoorRows.lean that lists a variable, with what it lists TIED to the program's text (the seventh form; the later family's looks); each row that meets fmt, with fmt's text TOLD by the authors' own Lean function (tested against real Go, not proved from fmt's source: count such statements apart). THE CARD IS WHAT COUNTS. Prove the row's statement (the work); the ties are given (YtiimabmdokpmbaaDoorTie.lean); close each card by the builder's one call (the guide's Derived/Test/ToyasCard.lean, 'card_holds'). Laid BY PROGRAM, IN A SANDBOX (cutbox-door.mjs). By AI agents, Wed Nov 11 2026. No macro, syntax, notation, axiom, sorry.
-/
import Derived.Test.YtiimabmdokpmbaaDoorRows
import GoSem.ClaimSeven
namespace Go.Proofs.YtiimabmdokpmbaaDoor
namespace Rows

/-- THE TIED CARD OF 'laws.FnExactFormResult'. -/
def fnExactFormResultCard : Claim7 := { stood := { row := fnExactFormResultRow, standIns := [], harness := (true, "c3c2f1291f4c1fe10755d2782b7e55b075c1a5f819d42c87a0b3a973a6a8fbb3"), looks := false }, kinds := [], alts := [], laidByText := true, laidKinds := [.data, .data, .data], laidTests := true, laidLooks := .later }
def FnExactFormResultCardSaid : Prop := Claim7.holds Tryd.pinned (.plain (OpenSpec.ofChange fnExactFormResultSpec)) fnExactFormResultCard

/-- THE TIED CARD OF 'laws.FnResults'. -/
def fnResultsCard : Claim7 := { stood := { row := fnResultsRow, standIns := [], harness := (true, "c3c2f1291f4c1fe10755d2782b7e55b075c1a5f819d42c87a0b3a973a6a8fbb3"), looks := false }, kinds := [], alts := [], laidByText := true, laidKinds := [.data, .data, .data], laidTests := true, laidLooks := .later }
def FnResultsCardSaid : Prop := Claim7.holds Tryd.pinned (.plain (OpenSpec.ofChange fnResultsSpec)) fnResultsCard

/-- THE SECOND FORM's CARD OF 'laws.FnExactFormResult'. -/
def fnExactFormResultUptoCard : Claim7 := { stood := { row := fnExactFormResultUptoRow, standIns := [], harness := (true, "c3c2f1291f4c1fe10755d2782b7e55b075c1a5f819d42c87a0b3a973a6a8fbb3"), looks := false }, kinds := [], alts := [], laidByText := true, laidKinds := [.data, .data, .data], laidTests := true, laidLooks := .later }
def FnExactFormResultUptoCardSaid : Prop := Claim7.holds Tryd.pinned (.plain (OpenSpec.upto fnExactFormResultSpec)) fnExactFormResultUptoCard

/-- THE SECOND FORM's CARD OF 'laws.FnResults'. -/
def fnResultsUptoCard : Claim7 := { stood := { row := fnResultsUptoRow, standIns := [], harness := (true, "c3c2f1291f4c1fe10755d2782b7e55b075c1a5f819d42c87a0b3a973a6a8fbb3"), looks := false }, kinds := [], alts := [], laidByText := true, laidKinds := [.data, .data, .data], laidTests := true, laidLooks := .later }
def FnResultsUptoCardSaid : Prop := Claim7.holds Tryd.pinned (.plain (OpenSpec.upto fnResultsSpec)) fnResultsUptoCard
end Rows
end Go.Proofs.YtiimabmdokpmbaaDoor

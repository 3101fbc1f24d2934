/-
  DERIVED. GIVEN WITH THE SEED: THE CARDS: each row of YtbigpkfdeaigeaaGreatDoorRows.lean that lists a variable, with what it lists TIED to the program's text (the seventh form; the later family's looks); each row that meets fmt, with fmt's text TOLD by the authors' own Lean function (tested against real Go, not proved from fmt's source: count such statements apart). THE CARD IS WHAT COUNTS. Prove the row's statement (the work); the ties are given (YtbigpkfdeaigeaaGreatDoorTie.lean); close each card by the builder's one call (the guide's Derived/Test/ToyasCard.lean, 'card_holds'). Laid BY PROGRAM, IN A SANDBOX (cutbox-door.mjs). By AI agents, Wed Nov 11 2026. No macro, syntax, notation, axiom, sorry.
-/
import Derived.Test.YtbigpkfdeaigeaaGreatDoorRows
import GoSem.ClaimSeven
namespace Go.Proofs.YtbigpkfdeaigeaaGreatDoor
namespace Rows

/-- THE TIED CARD OF 'laws.FnExactWhy'. -/
def fnExactWhyCard : Claim7 := { stood := { row := fnExactWhyRow, standIns := [], harness := (true, "ebde7acf664250bf8f418edd3cd6c9c9c06a401db54c69f3c251e28e73d42ae2"), looks := false }, kinds := [], alts := [], laidByText := true, laidKinds := [.data, .data, .data, .data], laidTests := true, laidLooks := .later }
def FnExactWhyCardSaid : Prop := Claim7.holds Tryz.pinned (.plain (OpenSpec.ofChange fnExactWhySpec)) fnExactWhyCard

/-- THE TIED CARD OF 'laws.FnFollows'. -/
def fnFollowsCard : Claim7 := { stood := { row := fnFollowsRow, standIns := [], harness := (true, "ebde7acf664250bf8f418edd3cd6c9c9c06a401db54c69f3c251e28e73d42ae2"), looks := false }, kinds := [], alts := [], laidByText := true, laidKinds := [.data, .data, .data], laidTests := true, laidLooks := .later }
def FnFollowsCardSaid : Prop := Claim7.holds Tryz.pinned (.plain (OpenSpec.ofChange fnFollowsSpec)) fnFollowsCard

/-- THE TIED CARD OF 'laws.FnCut'. -/
def fnCutCard : Claim7 := { stood := { row := fnCutRow, standIns := [], harness := (true, "ebde7acf664250bf8f418edd3cd6c9c9c06a401db54c69f3c251e28e73d42ae2"), looks := false }, kinds := [], alts := [], laidByText := true, laidKinds := [.data, .data, .data], laidTests := true, laidLooks := .later }
def FnCutCardSaid : Prop := Claim7.holds Tryz.pinned (.plain (OpenSpec.ofChange fnCutSpec)) fnCutCard

/-- THE TIED CARD OF 'laws.FnTexts'. -/
def fnTextsCard : Claim7 := { stood := { row := fnTextsRow, standIns := [], harness := (true, "ebde7acf664250bf8f418edd3cd6c9c9c06a401db54c69f3c251e28e73d42ae2"), looks := false }, kinds := [], alts := [], laidByText := true, laidKinds := [.data, .data, .data], laidTests := true, laidLooks := .later }
def FnTextsCardSaid : Prop := Claim7.holds Tryz.pinned (.plain (OpenSpec.ofChange fnTextsSpec)) fnTextsCard

/-- THE TIED CARD OF 'laws.FnInfluence'. -/
def fnInfluenceCard : Claim7 := { stood := { row := fnInfluenceRow, standIns := [], harness := (true, "ebde7acf664250bf8f418edd3cd6c9c9c06a401db54c69f3c251e28e73d42ae2"), looks := false }, kinds := [], alts := [], laidByText := true, laidKinds := [.data, .data, .data], laidTests := true, laidLooks := .later }
def FnInfluenceCardSaid : Prop := Claim7.holds Tryz.pinned (.plain (OpenSpec.ofChange fnInfluenceSpec)) fnInfluenceCard

/-- THE SECOND FORM's CARD OF 'laws.FnExactWhy'. -/
def fnExactWhyUptoCard : Claim7 := { stood := { row := fnExactWhyUptoRow, standIns := [], harness := (true, "ebde7acf664250bf8f418edd3cd6c9c9c06a401db54c69f3c251e28e73d42ae2"), looks := false }, kinds := [], alts := [], laidByText := true, laidKinds := [.data, .data, .data, .data], laidTests := true, laidLooks := .later }
def FnExactWhyUptoCardSaid : Prop := Claim7.holds Tryz.pinned (.plain (OpenSpec.upto fnExactWhySpec)) fnExactWhyUptoCard

/-- THE SECOND FORM's CARD OF 'laws.FnFollows'. -/
def fnFollowsUptoCard : Claim7 := { stood := { row := fnFollowsUptoRow, standIns := [], harness := (true, "ebde7acf664250bf8f418edd3cd6c9c9c06a401db54c69f3c251e28e73d42ae2"), looks := false }, kinds := [], alts := [], laidByText := true, laidKinds := [.data, .data, .data], laidTests := true, laidLooks := .later }
def FnFollowsUptoCardSaid : Prop := Claim7.holds Tryz.pinned (.plain (OpenSpec.upto fnFollowsSpec)) fnFollowsUptoCard

/-- THE SECOND FORM's CARD OF 'laws.FnCut'. -/
def fnCutUptoCard : Claim7 := { stood := { row := fnCutUptoRow, standIns := [], harness := (true, "ebde7acf664250bf8f418edd3cd6c9c9c06a401db54c69f3c251e28e73d42ae2"), looks := false }, kinds := [], alts := [], laidByText := true, laidKinds := [.data, .data, .data], laidTests := true, laidLooks := .later }
def FnCutUptoCardSaid : Prop := Claim7.holds Tryz.pinned (.plain (OpenSpec.upto fnCutSpec)) fnCutUptoCard

/-- THE SECOND FORM's CARD OF 'laws.FnTexts'. -/
def fnTextsUptoCard : Claim7 := { stood := { row := fnTextsUptoRow, standIns := [], harness := (true, "ebde7acf664250bf8f418edd3cd6c9c9c06a401db54c69f3c251e28e73d42ae2"), looks := false }, kinds := [], alts := [], laidByText := true, laidKinds := [.data, .data, .data], laidTests := true, laidLooks := .later }
def FnTextsUptoCardSaid : Prop := Claim7.holds Tryz.pinned (.plain (OpenSpec.upto fnTextsSpec)) fnTextsUptoCard

/-- THE SECOND FORM's CARD OF 'laws.FnInfluence'. -/
def fnInfluenceUptoCard : Claim7 := { stood := { row := fnInfluenceUptoRow, standIns := [], harness := (true, "ebde7acf664250bf8f418edd3cd6c9c9c06a401db54c69f3c251e28e73d42ae2"), looks := false }, kinds := [], alts := [], laidByText := true, laidKinds := [.data, .data, .data], laidTests := true, laidLooks := .later }
def FnInfluenceUptoCardSaid : Prop := Claim7.holds Tryz.pinned (.plain (OpenSpec.upto fnInfluenceSpec)) fnInfluenceUptoCard
end Rows
end Go.Proofs.YtbigpkfdeaigeaaGreatDoor

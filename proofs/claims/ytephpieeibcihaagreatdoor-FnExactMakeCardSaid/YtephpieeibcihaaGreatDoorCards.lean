/-
  DERIVED. GIVEN WITH THE SEED: THE CARDS: each row of YtephpieeibcihaaGreatDoorRows.lean that lists a variable, with what it lists TIED to the program's text (the seventh form; the later family's looks); each row that meets fmt, with fmt's text TOLD by the authors' own Lean function (tested against real Go, not proved from fmt's source: count such statements apart). THE CARD IS WHAT COUNTS. Prove the row's statement (the work); the ties are given (YtephpieeibcihaaGreatDoorTie.lean); close each card by the builder's one call (the guide's Derived/Test/ToyasCard.lean, 'card_holds'). Laid BY PROGRAM, IN A SANDBOX (cutbox-door.mjs). By AI agents, Wed Nov 11 2026. No macro, syntax, notation, axiom, sorry.
-/
import Derived.Test.YtephpieeibcihaaGreatDoorRows
import GoSem.ClaimSeven
namespace Go.Proofs.YtephpieeibcihaaGreatDoor
namespace Rows

/-- THE TIED CARD OF 'laws.FnExactTexts'. -/
def fnExactTextsCard : Claim7 := { stood := { row := fnExactTextsRow, standIns := [], harness := (true, "0c8d71aa0224c1d5378048d54e7df40b88bf6c151c4bbace48ee5d5f68371ea1"), looks := true }, kinds := [], alts := [], laidByText := true, laidKinds := [.data, .data, .data], laidTests := true, laidLooks := .later }
def FnExactTextsCardSaid : Prop := Claim7.holds Tryz.pinned (.plain (OpenSpec.ofChange fnExactTextsSpec)) fnExactTextsCard

/-- THE TIED CARD OF 'laws.FnExactClean'. -/
def fnExactCleanCard : Claim7 := { stood := { row := fnExactCleanRow, standIns := [], harness := (true, "0c8d71aa0224c1d5378048d54e7df40b88bf6c151c4bbace48ee5d5f68371ea1"), looks := true }, kinds := [], alts := [], laidByText := true, laidKinds := [.data, .data, .data], laidTests := true, laidLooks := .later }
def FnExactCleanCardSaid : Prop := Claim7.holds Tryz.pinned (.plain (OpenSpec.ofChange fnExactCleanSpec)) fnExactCleanCard

/-- THE TIED CARD OF 'laws.FnExactWhy'. -/
def fnExactWhyCard : Claim7 := { stood := { row := fnExactWhyRow, standIns := [], harness := (true, "0c8d71aa0224c1d5378048d54e7df40b88bf6c151c4bbace48ee5d5f68371ea1"), looks := true }, kinds := [], alts := [], laidByText := true, laidKinds := [.data, .data, .data, .data], laidTests := true, laidLooks := .later }
def FnExactWhyCardSaid : Prop := Claim7.holds Tryz.pinned (.plain (OpenSpec.ofChange fnExactWhySpec)) fnExactWhyCard

/-- THE TIED CARD OF 'laws.FnExactAudit'. -/
def fnExactAuditCard : Claim7 := { stood := { row := fnExactAuditRow, standIns := [], harness := (true, "0c8d71aa0224c1d5378048d54e7df40b88bf6c151c4bbace48ee5d5f68371ea1"), looks := true }, kinds := [], alts := [], laidByText := true, laidKinds := [.data, .data, .data], laidTests := true, laidLooks := .later }
def FnExactAuditCardSaid : Prop := Claim7.holds Tryz.pinned (.plain (OpenSpec.ofChange fnExactAuditSpec)) fnExactAuditCard

/-- THE TIED CARD OF 'laws.FnExactMake'. -/
def fnExactMakeCard : Claim7 := { stood := { row := fnExactMakeRow, standIns := [], harness := (true, "0c8d71aa0224c1d5378048d54e7df40b88bf6c151c4bbace48ee5d5f68371ea1"), looks := true }, kinds := [], alts := [], laidByText := true, laidKinds := [.data, .data, .data], laidTests := true, laidLooks := .later }
def FnExactMakeCardSaid : Prop := Claim7.holds Tryz.pinned (.plain (OpenSpec.ofChange fnExactMakeSpec)) fnExactMakeCard

/-- THE TIED CARD OF 'laws.FnExactReadAccount'. -/
def fnExactReadAccountCard : Claim7 := { stood := { row := fnExactReadAccountRow, standIns := [], harness := (true, "0c8d71aa0224c1d5378048d54e7df40b88bf6c151c4bbace48ee5d5f68371ea1"), looks := true }, kinds := [], alts := [], laidByText := true, laidKinds := [.data, .data, .data, .data, .sentinel, .sentinel, .data, .pinned], laidTests := true, laidLooks := .later }
def FnExactReadAccountCardSaid : Prop := Claim7.holds Tryz.pinned (.plain (OpenSpec.ofChange fnExactReadAccountSpec)) fnExactReadAccountCard

/-- THE TIED CARD OF 'laws.FnExactStale'. -/
def fnExactStaleCard : Claim7 := { stood := { row := fnExactStaleRow, standIns := [], harness := (true, "0c8d71aa0224c1d5378048d54e7df40b88bf6c151c4bbace48ee5d5f68371ea1"), looks := true }, kinds := [], alts := [], laidByText := true, laidKinds := [.data, .data, .data], laidTests := true, laidLooks := .later }
def FnExactStaleCardSaid : Prop := Claim7.holds Tryz.pinned (.plain (OpenSpec.ofChange fnExactStaleSpec)) fnExactStaleCard

/-- THE SECOND FORM's CARD OF 'laws.FnExactTexts'. -/
def fnExactTextsUptoCard : Claim7 := { stood := { row := fnExactTextsUptoRow, standIns := [], harness := (true, "0c8d71aa0224c1d5378048d54e7df40b88bf6c151c4bbace48ee5d5f68371ea1"), looks := true }, kinds := [], alts := [], laidByText := true, laidKinds := [.data, .data, .data], laidTests := true, laidLooks := .later }
def FnExactTextsUptoCardSaid : Prop := Claim7.holds Tryz.pinned (.plain (OpenSpec.upto fnExactTextsSpec)) fnExactTextsUptoCard

/-- THE SECOND FORM's CARD OF 'laws.FnExactClean'. -/
def fnExactCleanUptoCard : Claim7 := { stood := { row := fnExactCleanUptoRow, standIns := [], harness := (true, "0c8d71aa0224c1d5378048d54e7df40b88bf6c151c4bbace48ee5d5f68371ea1"), looks := true }, kinds := [], alts := [], laidByText := true, laidKinds := [.data, .data, .data], laidTests := true, laidLooks := .later }
def FnExactCleanUptoCardSaid : Prop := Claim7.holds Tryz.pinned (.plain (OpenSpec.upto fnExactCleanSpec)) fnExactCleanUptoCard

/-- THE SECOND FORM's CARD OF 'laws.FnExactWhy'. -/
def fnExactWhyUptoCard : Claim7 := { stood := { row := fnExactWhyUptoRow, standIns := [], harness := (true, "0c8d71aa0224c1d5378048d54e7df40b88bf6c151c4bbace48ee5d5f68371ea1"), looks := true }, kinds := [], alts := [], laidByText := true, laidKinds := [.data, .data, .data, .data], laidTests := true, laidLooks := .later }
def FnExactWhyUptoCardSaid : Prop := Claim7.holds Tryz.pinned (.plain (OpenSpec.upto fnExactWhySpec)) fnExactWhyUptoCard

/-- THE SECOND FORM's CARD OF 'laws.FnExactAudit'. -/
def fnExactAuditUptoCard : Claim7 := { stood := { row := fnExactAuditUptoRow, standIns := [], harness := (true, "0c8d71aa0224c1d5378048d54e7df40b88bf6c151c4bbace48ee5d5f68371ea1"), looks := true }, kinds := [], alts := [], laidByText := true, laidKinds := [.data, .data, .data], laidTests := true, laidLooks := .later }
def FnExactAuditUptoCardSaid : Prop := Claim7.holds Tryz.pinned (.plain (OpenSpec.upto fnExactAuditSpec)) fnExactAuditUptoCard

/-- THE SECOND FORM's CARD OF 'laws.FnExactMake'. -/
def fnExactMakeUptoCard : Claim7 := { stood := { row := fnExactMakeUptoRow, standIns := [], harness := (true, "0c8d71aa0224c1d5378048d54e7df40b88bf6c151c4bbace48ee5d5f68371ea1"), looks := true }, kinds := [], alts := [], laidByText := true, laidKinds := [.data, .data, .data], laidTests := true, laidLooks := .later }
def FnExactMakeUptoCardSaid : Prop := Claim7.holds Tryz.pinned (.plain (OpenSpec.upto fnExactMakeSpec)) fnExactMakeUptoCard

/-- THE SECOND FORM's CARD OF 'laws.FnExactReadAccount'. -/
def fnExactReadAccountUptoCard : Claim7 := { stood := { row := fnExactReadAccountUptoRow, standIns := [], harness := (true, "0c8d71aa0224c1d5378048d54e7df40b88bf6c151c4bbace48ee5d5f68371ea1"), looks := true }, kinds := [], alts := [], laidByText := true, laidKinds := [.data, .data, .data, .data, .sentinel, .sentinel, .data, .pinned], laidTests := true, laidLooks := .later }
def FnExactReadAccountUptoCardSaid : Prop := Claim7.holds Tryz.pinned (.plain (OpenSpec.upto fnExactReadAccountSpec)) fnExactReadAccountUptoCard

/-- THE SECOND FORM's CARD OF 'laws.FnExactStale'. -/
def fnExactStaleUptoCard : Claim7 := { stood := { row := fnExactStaleUptoRow, standIns := [], harness := (true, "0c8d71aa0224c1d5378048d54e7df40b88bf6c151c4bbace48ee5d5f68371ea1"), looks := true }, kinds := [], alts := [], laidByText := true, laidKinds := [.data, .data, .data], laidTests := true, laidLooks := .later }
def FnExactStaleUptoCardSaid : Prop := Claim7.holds Tryz.pinned (.plain (OpenSpec.upto fnExactStaleSpec)) fnExactStaleUptoCard
end Rows
end Go.Proofs.YtephpieeibcihaaGreatDoor

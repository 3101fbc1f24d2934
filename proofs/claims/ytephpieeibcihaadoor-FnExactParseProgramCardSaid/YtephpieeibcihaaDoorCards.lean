/-
  DERIVED. GIVEN WITH THE SEED: THE CARDS: each row of YtephpieeibcihaaDoorRows.lean that lists a variable, with what it lists TIED to the program's text (the seventh form; the later family's looks); each row that meets fmt, with fmt's text TOLD by the authors' own Lean function (tested against real Go, not proved from fmt's source: count such statements apart). THE CARD IS WHAT COUNTS. Prove the row's statement (the work); the ties are given (YtephpieeibcihaaDoorTie.lean); close each card by the builder's one call (the guide's Derived/Test/ToyasCard.lean, 'card_holds'). Laid BY PROGRAM, IN A SANDBOX (cutbox-door.mjs). By AI agents, Wed Nov 11 2026. No macro, syntax, notation, axiom, sorry.
-/
import Derived.Test.YtephpieeibcihaaDoorRows
import GoSem.ClaimSeven
namespace Go.Proofs.YtephpieeibcihaaDoor
namespace Rows

/-- THE TIED CARD OF 'laws.FnExactParseProgram'. -/
def fnExactParseProgramCard : Claim7 := { stood := { row := fnExactParseProgramRow, standIns := [], harness := (true, "702b27b5738b855ab17d71d7fabae2f5fbe242f3e74ebe50fe8e98194e39b6fa"), looks := true }, kinds := [], alts := [], laidByText := true, laidKinds := [.data, .data, .data, .sentinel, .sentinel, .data], laidTests := true, laidLooks := .later }
def FnExactParseProgramCardSaid : Prop := Claim7.holds Tryd.pinned (.plain (OpenSpec.ofChange fnExactParseProgramSpec)) fnExactParseProgramCard

/-- THE TIED CARD OF 'laws.FnProgram'. -/
def fnProgramCard : Claim7 := { stood := { row := fnProgramRow, standIns := [], harness := (true, "702b27b5738b855ab17d71d7fabae2f5fbe242f3e74ebe50fe8e98194e39b6fa"), looks := true }, kinds := [], alts := [], laidByText := true, laidKinds := [.data, .data, .data, .sentinel, .sentinel, .data], laidTests := true, laidLooks := .later }
def FnProgramCardSaid : Prop := Claim7.holds Tryd.pinned (.plain (OpenSpec.ofChange fnProgramSpec)) fnProgramCard

/-- THE TIED CARD OF 'laws.FnExactSeal'. -/
def fnExactSealCard : Claim7 := { stood := { row := fnExactSealRow, standIns := [], harness := (true, "702b27b5738b855ab17d71d7fabae2f5fbe242f3e74ebe50fe8e98194e39b6fa"), looks := true }, kinds := [], alts := [], laidByText := true, laidKinds := [.data, .data, .data, .data], laidTests := true, laidLooks := .later }
def FnExactSealCardSaid : Prop := Claim7.holds Tryd.pinned (.plain (OpenSpec.ofChange fnExactSealSpec)) fnExactSealCard

/-- THE TIED CARD OF 'laws.FnExactFollows'. -/
def fnExactFollowsCard : Claim7 := { stood := { row := fnExactFollowsRow, standIns := [], harness := (true, "702b27b5738b855ab17d71d7fabae2f5fbe242f3e74ebe50fe8e98194e39b6fa"), looks := true }, kinds := [], alts := [], laidByText := true, laidKinds := [.data, .data, .data], laidTests := true, laidLooks := .later }
def FnExactFollowsCardSaid : Prop := Claim7.holds Tryd.pinned (.plain (OpenSpec.ofChange fnExactFollowsSpec)) fnExactFollowsCard

/-- THE SECOND FORM's CARD OF 'laws.FnExactParseProgram'. -/
def fnExactParseProgramUptoCard : Claim7 := { stood := { row := fnExactParseProgramUptoRow, standIns := [], harness := (true, "702b27b5738b855ab17d71d7fabae2f5fbe242f3e74ebe50fe8e98194e39b6fa"), looks := true }, kinds := [], alts := [], laidByText := true, laidKinds := [.data, .data, .data, .sentinel, .sentinel, .data], laidTests := true, laidLooks := .later }
def FnExactParseProgramUptoCardSaid : Prop := Claim7.holds Tryd.pinned (.plain (OpenSpec.upto fnExactParseProgramSpec)) fnExactParseProgramUptoCard

/-- THE SECOND FORM's CARD OF 'laws.FnProgram'. -/
def fnProgramUptoCard : Claim7 := { stood := { row := fnProgramUptoRow, standIns := [], harness := (true, "702b27b5738b855ab17d71d7fabae2f5fbe242f3e74ebe50fe8e98194e39b6fa"), looks := true }, kinds := [], alts := [], laidByText := true, laidKinds := [.data, .data, .data, .sentinel, .sentinel, .data], laidTests := true, laidLooks := .later }
def FnProgramUptoCardSaid : Prop := Claim7.holds Tryd.pinned (.plain (OpenSpec.upto fnProgramSpec)) fnProgramUptoCard

/-- THE SECOND FORM's CARD OF 'laws.FnExactSeal'. -/
def fnExactSealUptoCard : Claim7 := { stood := { row := fnExactSealUptoRow, standIns := [], harness := (true, "702b27b5738b855ab17d71d7fabae2f5fbe242f3e74ebe50fe8e98194e39b6fa"), looks := true }, kinds := [], alts := [], laidByText := true, laidKinds := [.data, .data, .data, .data], laidTests := true, laidLooks := .later }
def FnExactSealUptoCardSaid : Prop := Claim7.holds Tryd.pinned (.plain (OpenSpec.upto fnExactSealSpec)) fnExactSealUptoCard

/-- THE SECOND FORM's CARD OF 'laws.FnExactFollows'. -/
def fnExactFollowsUptoCard : Claim7 := { stood := { row := fnExactFollowsUptoRow, standIns := [], harness := (true, "702b27b5738b855ab17d71d7fabae2f5fbe242f3e74ebe50fe8e98194e39b6fa"), looks := true }, kinds := [], alts := [], laidByText := true, laidKinds := [.data, .data, .data], laidTests := true, laidLooks := .later }
def FnExactFollowsUptoCardSaid : Prop := Claim7.holds Tryd.pinned (.plain (OpenSpec.upto fnExactFollowsSpec)) fnExactFollowsUptoCard
end Rows
end Go.Proofs.YtephpieeibcihaaDoor

/-
  No cell of these rows narrows 'for every input' (looked for: loops, veiled, ifaces, maps, wideKeys, modest, calm, conditions, laid).
  DERIVED. THE GIVEN ROWS OF THIS SEAT. 7 by the template 'for every input the law returns true; each argument reads behind the call as it read before'; 0 by the template 'total and deterministic' (their statements: YtehhjbomdohgoaaTotals.lean).
  GIVEN WITH THE SEED: the statements are not yours to turn. If you find one false, say at which input.
  Laid BY PROGRAM, IN A SANDBOX (cutbox-rows.mjs): the forced cells as the released guide's own fill.sh prints them over the translation fa814ada457afb92… (all of the seat's roots in one cut). By AI agents, Wed Nov 11 2026. No macro, syntax, notation, axiom, sorry.
-/
import Derived.Test.YtehhjbomdohgoaaChecked
import GoSem.Claim
import GoSem.ClaimJoined
import GoSem.ClaimMapViews
import Derived.JoinedTies
import Derived.KernelRfl
namespace Go.Proofs.Ytehhjbomdohgoaa
/- THE CELL 'sum', in the pinned program and in every row, IS THE sha256 OF THE DUMP (.gsa) THAT YtehhjbomdohgoaaProg.lean LOADS. Nothing in Lean hashes anything: it is a label: what it is worth is what the hold of that sum in a sandbox is worth. -/
noncomputable def Try.pinned : Pinned := { name := "ytehhjbomdohgoaa", sum := "fa814ada457afb9229ed788c0163cd86061f3d2254095ea0ebddfb7293f03ed8", checked := Try.checked }
namespace Rows
def none {H : Type} : Left H := { results := [], args := [] }

/-- 'laws.FnExactCheckSpace': WHATEVER THE INPUT: true; the input reads as it did. -/
def fnExactCheckSpaceSpec : ChangeSpec := { name := "fnExactCheckSpace", fn := fun _ => fun
  | [d] => { results := [.lit (.bool true)], args := [d] }
  | _ => none }
def fnExactCheckSpaceRow : OpenClaim := { program := "ytehhjbomdohgoaa", sum := "fa814ada457afb9229ed788c0163cd86061f3d2254095ea0ebddfb7293f03ed8", func := "loop.example/kilndeed/laws.FnExactCheckSpace", spec := "fnExactCheckSpace", inPlace := ["internal/bytealg.abigen_runtime_cmpstring"], unfollowed := true, recurses := true, apart := false }
def FnExactCheckSpaceSaid : Prop := fnExactCheckSpaceRow.holds Try.pinned (OpenSpec.ofChange fnExactCheckSpaceSpec)

/-- ITS FALSE NEIGHBOUR: 'it returns false'. Refute it at one input. -/
def fnExactCheckSpaceWrong : ChangeSpec := { name := "fnExactCheckSpace", fn := fun _ => fun
  | [d] => { results := [.lit (.bool false)], args := [d] }
  | _ => none }
def FnExactCheckSpaceWrongFalsely : Prop := fnExactCheckSpaceRow.holds Try.pinned (OpenSpec.ofChange fnExactCheckSpaceWrong)

/-- 'laws.FnExactCheckAccount': WHATEVER THE INPUT: true; the input reads as it did. -/
def fnExactCheckAccountSpec : ChangeSpec := { name := "fnExactCheckAccount", fn := fun _ => fun
  | [d] => { results := [.lit (.bool true)], args := [d] }
  | _ => none }
def fnExactCheckAccountRow : OpenClaim := { program := "ytehhjbomdohgoaa", sum := "fa814ada457afb9229ed788c0163cd86061f3d2254095ea0ebddfb7293f03ed8", func := "loop.example/kilndeed/laws.FnExactCheckAccount", spec := "fnExactCheckAccount", unfollowed := true, recurses := true, apart := false }
def FnExactCheckAccountSaid : Prop := fnExactCheckAccountRow.holds Try.pinned (OpenSpec.ofChange fnExactCheckAccountSpec)

/-- ITS FALSE NEIGHBOUR: 'it returns false'. Refute it at one input. -/
def fnExactCheckAccountWrong : ChangeSpec := { name := "fnExactCheckAccount", fn := fun _ => fun
  | [d] => { results := [.lit (.bool false)], args := [d] }
  | _ => none }
def FnExactCheckAccountWrongFalsely : Prop := fnExactCheckAccountRow.holds Try.pinned (OpenSpec.ofChange fnExactCheckAccountWrong)

/-- 'laws.FnExactDrop': WHATEVER THE INPUT: true; the input reads as it did. -/
def fnExactDropSpec : ChangeSpec := { name := "fnExactDrop", fn := fun _ => fun
  | [d1, d2] => { results := [.lit (.bool true)], args := [d1, d2] }
  | _ => none }
def fnExactDropRow : OpenClaim := { program := "ytehhjbomdohgoaa", sum := "fa814ada457afb9229ed788c0163cd86061f3d2254095ea0ebddfb7293f03ed8", func := "loop.example/kilndeed/laws.FnExactDrop", spec := "fnExactDrop", inPlace := ["internal/bytealg.abigen_runtime_cmpstring"], unfollowed := true, recurses := true, apart := false }
def FnExactDropSaid : Prop := fnExactDropRow.holds Try.pinned (OpenSpec.ofChange fnExactDropSpec)

/-- ITS FALSE NEIGHBOUR: 'it returns false'. Refute it at one input. -/
def fnExactDropWrong : ChangeSpec := { name := "fnExactDrop", fn := fun _ => fun
  | [d1, d2] => { results := [.lit (.bool false)], args := [d1, d2] }
  | _ => none }
def FnExactDropWrongFalsely : Prop := fnExactDropRow.holds Try.pinned (OpenSpec.ofChange fnExactDropWrong)

/-- 'laws.FnExactCut': WHATEVER THE INPUT: true; the input reads as it did. -/
def fnExactCutSpec : ChangeSpec := { name := "fnExactCut", fn := fun _ => fun
  | [d1, d2] => { results := [.lit (.bool true)], args := [d1, d2] }
  | _ => none }
def fnExactCutRow : OpenClaim := { program := "ytehhjbomdohgoaa", sum := "fa814ada457afb9229ed788c0163cd86061f3d2254095ea0ebddfb7293f03ed8", func := "loop.example/kilndeed/laws.FnExactCut", spec := "fnExactCut", unfollowed := true, recurses := true, apart := false }
def FnExactCutSaid : Prop := fnExactCutRow.holds Try.pinned (OpenSpec.ofChange fnExactCutSpec)

/-- ITS FALSE NEIGHBOUR: 'it returns false'. Refute it at one input. -/
def fnExactCutWrong : ChangeSpec := { name := "fnExactCut", fn := fun _ => fun
  | [d1, d2] => { results := [.lit (.bool false)], args := [d1, d2] }
  | _ => none }
def FnExactCutWrongFalsely : Prop := fnExactCutRow.holds Try.pinned (OpenSpec.ofChange fnExactCutWrong)

/-- 'laws.FnExactPutSource': WHATEVER THE INPUT: true; the input reads as it did. -/
def fnExactPutSourceSpec : ChangeSpec := { name := "fnExactPutSource", fn := fun _ => fun
  | [d1, d2, d3] => { results := [.lit (.bool true)], args := [d1, d2, d3] }
  | _ => none }
def fnExactPutSourceRow : OpenClaim := { program := "ytehhjbomdohgoaa", sum := "fa814ada457afb9229ed788c0163cd86061f3d2254095ea0ebddfb7293f03ed8", func := "loop.example/kilndeed/laws.FnExactPutSource", spec := "fnExactPutSource", inPlace := ["internal/bytealg.abigen_runtime_cmpstring", "slices.overlaps[loop.example/kilndeed/impl.Source]"], unfollowed := true, recurses := true, apart := false }
def FnExactPutSourceSaid : Prop := fnExactPutSourceRow.holds Try.pinned (OpenSpec.ofChange fnExactPutSourceSpec)

/-- ITS FALSE NEIGHBOUR: 'it returns false'. Refute it at one input. -/
def fnExactPutSourceWrong : ChangeSpec := { name := "fnExactPutSource", fn := fun _ => fun
  | [d1, d2, d3] => { results := [.lit (.bool false)], args := [d1, d2, d3] }
  | _ => none }
def FnExactPutSourceWrongFalsely : Prop := fnExactPutSourceRow.holds Try.pinned (OpenSpec.ofChange fnExactPutSourceWrong)

/-- 'laws.FnExactPutTarget': WHATEVER THE INPUT: true; the input reads as it did. -/
def fnExactPutTargetSpec : ChangeSpec := { name := "fnExactPutTarget", fn := fun _ => fun
  | [d1, d2, d3] => { results := [.lit (.bool true)], args := [d1, d2, d3] }
  | _ => none }
def fnExactPutTargetRow : OpenClaim := { program := "ytehhjbomdohgoaa", sum := "fa814ada457afb9229ed788c0163cd86061f3d2254095ea0ebddfb7293f03ed8", func := "loop.example/kilndeed/laws.FnExactPutTarget", spec := "fnExactPutTarget", inPlace := ["internal/bytealg.abigen_runtime_cmpstring", "slices.overlaps[loop.example/kilndeed/impl.Target]"], unfollowed := true, recurses := true, apart := false }
def FnExactPutTargetSaid : Prop := fnExactPutTargetRow.holds Try.pinned (OpenSpec.ofChange fnExactPutTargetSpec)

/-- ITS FALSE NEIGHBOUR: 'it returns false'. Refute it at one input. -/
def fnExactPutTargetWrong : ChangeSpec := { name := "fnExactPutTarget", fn := fun _ => fun
  | [d1, d2, d3] => { results := [.lit (.bool false)], args := [d1, d2, d3] }
  | _ => none }
def FnExactPutTargetWrongFalsely : Prop := fnExactPutTargetRow.holds Try.pinned (OpenSpec.ofChange fnExactPutTargetWrong)

/-- 'laws.FnExactSources': WHATEVER THE INPUT: true; the input reads as it did. -/
def fnExactSourcesSpec : ChangeSpec := { name := "fnExactSources", fn := fun _ => fun
  | [d] => { results := [.lit (.bool true)], args := [d] }
  | _ => none }
def fnExactSourcesRow : OpenClaim := { program := "ytehhjbomdohgoaa", sum := "fa814ada457afb9229ed788c0163cd86061f3d2254095ea0ebddfb7293f03ed8", func := "loop.example/kilndeed/laws.FnExactSources", spec := "fnExactSources", unfollowed := true, recurses := true, apart := false }
def FnExactSourcesSaid : Prop := fnExactSourcesRow.holds Try.pinned (OpenSpec.ofChange fnExactSourcesSpec)

/-- ITS FALSE NEIGHBOUR: 'it returns false'. Refute it at one input. -/
def fnExactSourcesWrong : ChangeSpec := { name := "fnExactSources", fn := fun _ => fun
  | [d] => { results := [.lit (.bool false)], args := [d] }
  | _ => none }
def FnExactSourcesWrongFalsely : Prop := fnExactSourcesRow.holds Try.pinned (OpenSpec.ofChange fnExactSourcesWrong)

/- THE SECOND FORM. 'bulk': how many values and letters a reading holds, each counted each time it is reached (what is shared counts as often as it is met; a slice's spare places count too). A statement '..UptoSaid' is the law's where the arguments, and the package variables that the reading takes, are together of bulk at most 1048576: NARROWER than '..Said'. Prove '..Said' where nothing that the law and all that it calls make is longer than what came in: it says more and counts as full. Else prove '..UptoSaid'. A law counts once. -/
mutual
def uptoBulk {H : Type} : DataW H → Nat
  | .lit (.string bytes) => bytes.length + 1
  | .lit _ => 1
  | .nil => 1
  | .ptr d => uptoBulk d + 1
  | .slice elems spare => uptoBulkAll elems + uptoBulkAll spare + 1
  | .agg parts => uptoBulkAll parts + 1
  | .iface _ d => uptoBulk d + 1
  | .map entries => uptoBulkEntries entries + 1
  | .held _ => 1
def uptoBulkAll {H : Type} : List (DataW H) → Nat
  | [] => 0
  | d :: r => uptoBulk d + uptoBulkAll r
def uptoBulkEntries {H : Type} : List (Lit × DataW H) → Nat
  | [] => 0
  | x :: r => uptoBulkEntry x + uptoBulkEntries r
def uptoBulkEntry {H : Type} : Lit × DataW H → Nat
  | (.string bytes, d) => bytes.length + uptoBulk d + 1
  | (_, d) => uptoBulk d + 1
 end
def uptoSmall : (H : Type) → List (DataW H) → Bool := fun _ ds => decide (uptoBulkAll ds ≤ 1048576)
def OpenSpec.upto (s : _root_.Go.ChangeSpec) : _root_.Go.OpenSpec := { _root_.Go.OpenSpec.ofChange s with cond := some uptoSmall }

/-- 'laws.FnExactCheckSpace', WHERE WHAT IT READS IS OF BULK AT MOST 1048576: true; the input reads as it did. -/
def fnExactCheckSpaceUptoRow : OpenClaim := { program := "ytehhjbomdohgoaa", sum := "fa814ada457afb9229ed788c0163cd86061f3d2254095ea0ebddfb7293f03ed8", func := "loop.example/kilndeed/laws.FnExactCheckSpace", spec := "fnExactCheckSpace", inPlace := ["internal/bytealg.abigen_runtime_cmpstring"], unfollowed := true, recurses := true, apart := false, narrowed := true }
def FnExactCheckSpaceUptoSaid : Prop := fnExactCheckSpaceUptoRow.holds Try.pinned (OpenSpec.upto fnExactCheckSpaceSpec)

/-- 'laws.FnExactCheckAccount', WHERE WHAT IT READS IS OF BULK AT MOST 1048576: true; the input reads as it did. -/
def fnExactCheckAccountUptoRow : OpenClaim := { program := "ytehhjbomdohgoaa", sum := "fa814ada457afb9229ed788c0163cd86061f3d2254095ea0ebddfb7293f03ed8", func := "loop.example/kilndeed/laws.FnExactCheckAccount", spec := "fnExactCheckAccount", unfollowed := true, recurses := true, apart := false, narrowed := true }
def FnExactCheckAccountUptoSaid : Prop := fnExactCheckAccountUptoRow.holds Try.pinned (OpenSpec.upto fnExactCheckAccountSpec)

/-- 'laws.FnExactDrop', WHERE WHAT IT READS IS OF BULK AT MOST 1048576: true; the input reads as it did. -/
def fnExactDropUptoRow : OpenClaim := { program := "ytehhjbomdohgoaa", sum := "fa814ada457afb9229ed788c0163cd86061f3d2254095ea0ebddfb7293f03ed8", func := "loop.example/kilndeed/laws.FnExactDrop", spec := "fnExactDrop", inPlace := ["internal/bytealg.abigen_runtime_cmpstring"], unfollowed := true, recurses := true, apart := false, narrowed := true }
def FnExactDropUptoSaid : Prop := fnExactDropUptoRow.holds Try.pinned (OpenSpec.upto fnExactDropSpec)

/-- 'laws.FnExactCut', WHERE WHAT IT READS IS OF BULK AT MOST 1048576: true; the input reads as it did. -/
def fnExactCutUptoRow : OpenClaim := { program := "ytehhjbomdohgoaa", sum := "fa814ada457afb9229ed788c0163cd86061f3d2254095ea0ebddfb7293f03ed8", func := "loop.example/kilndeed/laws.FnExactCut", spec := "fnExactCut", unfollowed := true, recurses := true, apart := false, narrowed := true }
def FnExactCutUptoSaid : Prop := fnExactCutUptoRow.holds Try.pinned (OpenSpec.upto fnExactCutSpec)

/-- 'laws.FnExactPutSource', WHERE WHAT IT READS IS OF BULK AT MOST 1048576: true; the input reads as it did. -/
def fnExactPutSourceUptoRow : OpenClaim := { program := "ytehhjbomdohgoaa", sum := "fa814ada457afb9229ed788c0163cd86061f3d2254095ea0ebddfb7293f03ed8", func := "loop.example/kilndeed/laws.FnExactPutSource", spec := "fnExactPutSource", inPlace := ["internal/bytealg.abigen_runtime_cmpstring", "slices.overlaps[loop.example/kilndeed/impl.Source]"], unfollowed := true, recurses := true, apart := false, narrowed := true }
def FnExactPutSourceUptoSaid : Prop := fnExactPutSourceUptoRow.holds Try.pinned (OpenSpec.upto fnExactPutSourceSpec)

/-- 'laws.FnExactPutTarget', WHERE WHAT IT READS IS OF BULK AT MOST 1048576: true; the input reads as it did. -/
def fnExactPutTargetUptoRow : OpenClaim := { program := "ytehhjbomdohgoaa", sum := "fa814ada457afb9229ed788c0163cd86061f3d2254095ea0ebddfb7293f03ed8", func := "loop.example/kilndeed/laws.FnExactPutTarget", spec := "fnExactPutTarget", inPlace := ["internal/bytealg.abigen_runtime_cmpstring", "slices.overlaps[loop.example/kilndeed/impl.Target]"], unfollowed := true, recurses := true, apart := false, narrowed := true }
def FnExactPutTargetUptoSaid : Prop := fnExactPutTargetUptoRow.holds Try.pinned (OpenSpec.upto fnExactPutTargetSpec)

/-- 'laws.FnExactSources', WHERE WHAT IT READS IS OF BULK AT MOST 1048576: true; the input reads as it did. -/
def fnExactSourcesUptoRow : OpenClaim := { program := "ytehhjbomdohgoaa", sum := "fa814ada457afb9229ed788c0163cd86061f3d2254095ea0ebddfb7293f03ed8", func := "loop.example/kilndeed/laws.FnExactSources", spec := "fnExactSources", unfollowed := true, recurses := true, apart := false, narrowed := true }
def FnExactSourcesUptoSaid : Prop := fnExactSourcesUptoRow.holds Try.pinned (OpenSpec.upto fnExactSourcesSpec)

end Rows
end Go.Proofs.Ytehhjbomdohgoaa

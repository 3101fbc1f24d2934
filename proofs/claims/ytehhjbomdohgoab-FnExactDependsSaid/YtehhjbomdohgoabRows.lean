/-
  No cell of these rows narrows 'for every input' (looked for: loops, veiled, ifaces, maps, wideKeys, modest, calm, conditions, laid).
  DERIVED. THE GIVEN ROWS OF THIS SEAT. 2 by the template 'for every input the law returns true; each argument reads behind the call as it read before'; 0 by the template 'total and deterministic' (their statements: YtehhjbomdohgoabTotals.lean).
  GIVEN WITH THE SEED: the statements are not yours to turn. If you find one false, say at which input.
  Laid BY PROGRAM, IN A SANDBOX (cutbox-rows.mjs): the forced cells as the released guide's own fill.sh prints them over the translation 1f37a18012919340… (all of the seat's roots in one cut). By AI agents, Wed Nov 11 2026. No macro, syntax, notation, axiom, sorry.
-/
import Derived.Test.YtehhjbomdohgoabChecked
import GoSem.Claim
import GoSem.ClaimJoined
import GoSem.ClaimMapViews
import Derived.JoinedTies
import Derived.KernelRfl
namespace Go.Proofs.Ytehhjbomdohgoab
/- THE CELL 'sum', in the pinned program and in every row, IS THE sha256 OF THE DUMP (.gsa) THAT YtehhjbomdohgoabProg.lean LOADS. Nothing in Lean hashes anything: it is a label: what it is worth is what the hold of that sum in a sandbox is worth. -/
noncomputable def Try.pinned : Pinned := { name := "ytehhjbomdohgoab", sum := "1f37a1801291934011f89f24eb3fa79492a606ecdf74011518ecb95be7f068c2", checked := Try.checked }
namespace Rows
def none {H : Type} : Left H := { results := [], args := [] }

/-- 'laws.FnExactNames': WHATEVER THE INPUT: true; the input reads as it did. -/
def fnExactNamesSpec : ChangeSpec := { name := "fnExactNames", fn := fun _ => fun
  | [d] => { results := [.lit (.bool true)], args := [d] }
  | _ => none }
def fnExactNamesRow : OpenClaim := { program := "ytehhjbomdohgoab", sum := "1f37a1801291934011f89f24eb3fa79492a606ecdf74011518ecb95be7f068c2", func := "loop.example/kilndeed/laws.FnExactNames", spec := "fnExactNames", unfollowed := true, recurses := true, apart := false }
def FnExactNamesSaid : Prop := fnExactNamesRow.holds Try.pinned (OpenSpec.ofChange fnExactNamesSpec)

/-- ITS FALSE NEIGHBOUR: 'it returns false'. Refute it at one input. -/
def fnExactNamesWrong : ChangeSpec := { name := "fnExactNames", fn := fun _ => fun
  | [d] => { results := [.lit (.bool false)], args := [d] }
  | _ => none }
def FnExactNamesWrongFalsely : Prop := fnExactNamesRow.holds Try.pinned (OpenSpec.ofChange fnExactNamesWrong)

/-- 'laws.FnExactDepends': WHATEVER THE INPUT: true; the input reads as it did. -/
def fnExactDependsSpec : ChangeSpec := { name := "fnExactDepends", fn := fun _ => fun
  | [d1, d2] => { results := [.lit (.bool true)], args := [d1, d2] }
  | _ => none }
def fnExactDependsRow : OpenClaim := { program := "ytehhjbomdohgoab", sum := "1f37a1801291934011f89f24eb3fa79492a606ecdf74011518ecb95be7f068c2", func := "loop.example/kilndeed/laws.FnExactDepends", spec := "fnExactDepends", unfollowed := true, recurses := true, apart := false }
def FnExactDependsSaid : Prop := fnExactDependsRow.holds Try.pinned (OpenSpec.ofChange fnExactDependsSpec)

/-- ITS FALSE NEIGHBOUR: 'it returns false'. Refute it at one input. -/
def fnExactDependsWrong : ChangeSpec := { name := "fnExactDepends", fn := fun _ => fun
  | [d1, d2] => { results := [.lit (.bool false)], args := [d1, d2] }
  | _ => none }
def FnExactDependsWrongFalsely : Prop := fnExactDependsRow.holds Try.pinned (OpenSpec.ofChange fnExactDependsWrong)

/- THE SECOND FORM. 'bulk': how many values and letters a reading holds, each counted each time it is reached (what is shared counts as often as it is met; a slice's spare places count too). A statement '..UptoSaid' is the law's where the arguments, and the package variables that the reading takes, are together of bulk at most 1048576: NARROWER than '..Said'. Prove '..Said' where nothing that the law and all that it calls make is longer than what came in: it says more and counts as full. Else prove '..UptoSaid'. A law counts once. -/
mutual
def uptoBulk {H : Type} : DataW H → Nat
  | .lit (.string bytes) => bytes.length + 1
  | .lit _ => 1
  | .nil => 1
  | .ptr d => uptoBulk d + 1
  | .slice elems spare => uptoBulkAll elems + uptoBulkAll spare + 1
  | .agg parts => uptoBulkAll parts + 1
  | .iface _ d => uptoBulk d + 1
  | .map entries => uptoBulkEntries entries + 1
  | .held _ => 1
def uptoBulkAll {H : Type} : List (DataW H) → Nat
  | [] => 0
  | d :: r => uptoBulk d + uptoBulkAll r
def uptoBulkEntries {H : Type} : List (Lit × DataW H) → Nat
  | [] => 0
  | x :: r => uptoBulkEntry x + uptoBulkEntries r
def uptoBulkEntry {H : Type} : Lit × DataW H → Nat
  | (.string bytes, d) => bytes.length + uptoBulk d + 1
  | (_, d) => uptoBulk d + 1
 end
def uptoSmall : (H : Type) → List (DataW H) → Bool := fun _ ds => decide (uptoBulkAll ds ≤ 1048576)
def OpenSpec.upto (s : _root_.Go.ChangeSpec) : _root_.Go.OpenSpec := { _root_.Go.OpenSpec.ofChange s with cond := some uptoSmall }

/-- 'laws.FnExactNames', WHERE WHAT IT READS IS OF BULK AT MOST 1048576: true; the input reads as it did. -/
def fnExactNamesUptoRow : OpenClaim := { program := "ytehhjbomdohgoab", sum := "1f37a1801291934011f89f24eb3fa79492a606ecdf74011518ecb95be7f068c2", func := "loop.example/kilndeed/laws.FnExactNames", spec := "fnExactNames", unfollowed := true, recurses := true, apart := false, narrowed := true }
def FnExactNamesUptoSaid : Prop := fnExactNamesUptoRow.holds Try.pinned (OpenSpec.upto fnExactNamesSpec)

/-- 'laws.FnExactDepends', WHERE WHAT IT READS IS OF BULK AT MOST 1048576: true; the input reads as it did. -/
def fnExactDependsUptoRow : OpenClaim := { program := "ytehhjbomdohgoab", sum := "1f37a1801291934011f89f24eb3fa79492a606ecdf74011518ecb95be7f068c2", func := "loop.example/kilndeed/laws.FnExactDepends", spec := "fnExactDepends", unfollowed := true, recurses := true, apart := false, narrowed := true }
def FnExactDependsUptoSaid : Prop := fnExactDependsUptoRow.holds Try.pinned (OpenSpec.upto fnExactDependsSpec)

end Rows
end Go.Proofs.Ytehhjbomdohgoab

/-
  NARROWER THAN 'FOR EVERY INPUT', by the rows' own cells (each row's printed sentence says how): FnExactTexts: laid · FnExactClean: laid · FnExactWhy: laid · FnExactAudit: laid · FnExactMake: laid · FnExactReadAccount: laid · FnExactStale: laid.
  DERIVED. THE GIVEN ROWS OF THIS SEAT. 7 by the template 'for every input the law returns true; each argument reads behind the call as it read before'; 0 by the template 'total and deterministic' (their statements: YtephpieeibcihaaGreatDoorTotals.lean).
  GIVEN WITH THE SEED: the statements are not yours to turn. If you find one false, say at which input.
  Laid BY PROGRAM, IN A SANDBOX (cutbox-rows.mjs): the forced cells as the released guide's own fill.sh prints them over the translation 06512deea941e851… (all of the seat's roots in one cut). By AI agents, Wed Nov 11 2026. No macro, syntax, notation, axiom, sorry.
-/
import Derived.Test.YtephpieeibcihaaGreatDoorChecked
import GoSem.PinnedTables
import GoSem.Claim
import GoSem.ClaimJoined
import GoSem.ClaimMapViews
import Derived.JoinedTies
import Derived.KernelRfl
namespace Go.Proofs.YtephpieeibcihaaGreatDoor
/- THE CELL 'sum', in the pinned program and in every row, IS THE sha256 OF THE DUMP (.gsa) THAT YtephpieeibcihaaGreatDoorProg.lean LOADS. Nothing in Lean hashes anything: it is a label: what it is worth is what the hold of that sum in a sandbox is worth. -/
noncomputable def Tryz.pinned : Pinned := { name := "ytephpieeibcihaagreatdoor", sum := "06512deea941e8514fee869ba7527e21c302cd1a19e718d9794a75f774a2d44b", checked := Tryz.checked }
namespace Rows
def none {H : Type} : Left H := { results := [], args := [] }

/- WHAT THE LISTED PACKAGE-LEVEL VARIABLES READ AS WHEN THE CALL BEGINS. Each datum BY PROGRAM (the guide's laid-datum.mjs) off the statement by which the dump's own 'gosem.cut.vars' lays the variable. In a bare row this is a premise. The card (YtephpieeibcihaaGreatDoorCards.lean) ties it to the program's text. -/
def laid_math_bits_deBruijn32tab {H : Type} : DataW H := .agg [.lit (.int .u8 0), .lit (.int .u8 1), .lit (.int .u8 28), .lit (.int .u8 2), .lit (.int .u8 29), .lit (.int .u8 14), .lit (.int .u8 24), .lit (.int .u8 3), .lit (.int .u8 30), .lit (.int .u8 22), .lit (.int .u8 20), .lit (.int .u8 15), .lit (.int .u8 25), .lit (.int .u8 17), .lit (.int .u8 4), .lit (.int .u8 8), .lit (.int .u8 31), .lit (.int .u8 27), .lit (.int .u8 13), .lit (.int .u8 23), .lit (.int .u8 21), .lit (.int .u8 19), .lit (.int .u8 16), .lit (.int .u8 7), .lit (.int .u8 26), .lit (.int .u8 12), .lit (.int .u8 18), .lit (.int .u8 6), .lit (.int .u8 11), .lit (.int .u8 5), .lit (.int .u8 10), .lit (.int .u8 9)]
def laid_math_bits_deBruijn64tab {H : Type} : DataW H := .agg [.lit (.int .u8 0), .lit (.int .u8 1), .lit (.int .u8 56), .lit (.int .u8 2), .lit (.int .u8 57), .lit (.int .u8 49), .lit (.int .u8 28), .lit (.int .u8 3), .lit (.int .u8 61), .lit (.int .u8 58), .lit (.int .u8 42), .lit (.int .u8 50), .lit (.int .u8 38), .lit (.int .u8 29), .lit (.int .u8 17), .lit (.int .u8 4), .lit (.int .u8 62), .lit (.int .u8 47), .lit (.int .u8 59), .lit (.int .u8 36), .lit (.int .u8 45), .lit (.int .u8 43), .lit (.int .u8 51), .lit (.int .u8 22), .lit (.int .u8 53), .lit (.int .u8 39), .lit (.int .u8 33), .lit (.int .u8 30), .lit (.int .u8 24), .lit (.int .u8 18), .lit (.int .u8 12), .lit (.int .u8 5), .lit (.int .u8 63), .lit (.int .u8 55), .lit (.int .u8 48), .lit (.int .u8 27), .lit (.int .u8 60), .lit (.int .u8 41), .lit (.int .u8 37), .lit (.int .u8 16), .lit (.int .u8 46), .lit (.int .u8 35), .lit (.int .u8 44), .lit (.int .u8 21), .lit (.int .u8 52), .lit (.int .u8 32), .lit (.int .u8 23), .lit (.int .u8 11), .lit (.int .u8 54), .lit (.int .u8 26), .lit (.int .u8 40), .lit (.int .u8 15), .lit (.int .u8 34), .lit (.int .u8 20), .lit (.int .u8 31), .lit (.int .u8 10), .lit (.int .u8 25), .lit (.int .u8 14), .lit (.int .u8 19), .lit (.int .u8 9), .lit (.int .u8 13), .lit (.int .u8 8), .lit (.int .u8 7), .lit (.int .u8 6)]
def laid_internal_strconv_uint64pow10 {H : Type} : DataW H := .agg [.lit (.int .u64 1), .lit (.int .u64 10), .lit (.int .u64 100), .lit (.int .u64 1000), .lit (.int .u64 10000), .lit (.int .u64 100000), .lit (.int .u64 1000000), .lit (.int .u64 10000000), .lit (.int .u64 100000000), .lit (.int .u64 1000000000), .lit (.int .u64 10000000000), .lit (.int .u64 100000000000), .lit (.int .u64 1000000000000), .lit (.int .u64 10000000000000), .lit (.int .u64 100000000000000), .lit (.int .u64 1000000000000000), .lit (.int .u64 10000000000000000), .lit (.int .u64 100000000000000000), .lit (.int .u64 1000000000000000000), .lit (.int .u64 10000000000000000000)]
def laid_loop_example_kilndeed_impl_words {H : Type} : DataW H := .slice [.lit (.string []), .lit (.string [108, 105, 116]), .lit (.string [99, 97, 116]), .lit (.string [99, 117, 116]), .lit (.string [114, 101, 115, 116]), .lit (.string [119, 111, 114, 100]), .lit (.string [115, 97, 109, 101]), .lit (.string [100, 117, 112]), .lit (.string [115, 119, 97, 112]), .lit (.string [100, 114, 111, 112]), .lit (.string [106, 117, 109, 112]), .lit (.string [117, 110, 108, 101, 115, 115]), .lit (.string [97, 115, 107]), .lit (.string [104, 97, 115]), .lit (.string [102, 97, 105, 108]), .lit (.string [101, 110, 100])] []
def laid_unicode_utf8_acceptRanges {H : Type} : DataW H := .agg [.agg [.lit (.int .u8 128), .lit (.int .u8 191)], .agg [.lit (.int .u8 160), .lit (.int .u8 191)], .agg [.lit (.int .u8 128), .lit (.int .u8 159)], .agg [.lit (.int .u8 144), .lit (.int .u8 191)], .agg [.lit (.int .u8 128), .lit (.int .u8 143)], .agg [.lit (.int .u8 0), .lit (.int .u8 0)], .agg [.lit (.int .u8 0), .lit (.int .u8 0)], .agg [.lit (.int .u8 0), .lit (.int .u8 0)], .agg [.lit (.int .u8 0), .lit (.int .u8 0)], .agg [.lit (.int .u8 0), .lit (.int .u8 0)], .agg [.lit (.int .u8 0), .lit (.int .u8 0)], .agg [.lit (.int .u8 0), .lit (.int .u8 0)], .agg [.lit (.int .u8 0), .lit (.int .u8 0)], .agg [.lit (.int .u8 0), .lit (.int .u8 0)], .agg [.lit (.int .u8 0), .lit (.int .u8 0)], .agg [.lit (.int .u8 0), .lit (.int .u8 0)]]
def laid_strconv_ErrRange {H : Type} : DataW H := .iface "*errors.errorString" (.ptr (.agg [.lit (.string [118, 97, 108, 117, 101, 32, 111, 117, 116, 32, 111, 102, 32, 114, 97, 110, 103, 101])]))
def laid_strconv_ErrSyntax {H : Type} : DataW H := .iface "*errors.errorString" (.ptr (.agg [.lit (.string [105, 110, 118, 97, 108, 105, 100, 32, 115, 121, 110, 116, 97, 120])]))
/-- One of Go's own tables, pinned by name: the form's constant. -/
def laid_unicode_utf8_first : DataW Unit := Go.Pinned.utf8First

/-- 'laws.FnExactTexts': WHATEVER THE INPUT: true; the input reads as it did. -/
def fnExactTextsSpec : ChangeSpec := { name := "fnExactTexts", fn := fun _ => fun
  | [d] => { results := [.lit (.bool true)], args := [d] }
  | _ => none }
def fnExactTextsRow : OpenClaim := { program := "ytephpieeibcihaagreatdoor", sum := "06512deea941e8514fee869ba7527e21c302cd1a19e718d9794a75f774a2d44b", func := "loop.example/kilndeed/laws.FnExactTexts", spec := "fnExactTexts", unfollowed := true, recurses := true, named := ["internal/strconv.uint64pow10", "math/bits.deBruijn32tab", "math/bits.deBruijn64tab"], apart := false, laid := [("math/bits.deBruijn32tab", laid_math_bits_deBruijn32tab), ("math/bits.deBruijn64tab", laid_math_bits_deBruijn64tab), ("internal/strconv.uint64pow10", laid_internal_strconv_uint64pow10)] }
def FnExactTextsSaid : Prop := fnExactTextsRow.holds Tryz.pinned (OpenSpec.ofChange fnExactTextsSpec)

/-- ITS FALSE NEIGHBOUR: 'it returns false'. Refute it at one input. -/
def fnExactTextsWrong : ChangeSpec := { name := "fnExactTexts", fn := fun _ => fun
  | [d] => { results := [.lit (.bool false)], args := [d] }
  | _ => none }
def FnExactTextsWrongFalsely : Prop := fnExactTextsRow.holds Tryz.pinned (OpenSpec.ofChange fnExactTextsWrong)

/-- 'laws.FnExactClean': WHATEVER THE INPUT: true; the input reads as it did. -/
def fnExactCleanSpec : ChangeSpec := { name := "fnExactClean", fn := fun _ => fun
  | [d1, d2] => { results := [.lit (.bool true)], args := [d1, d2] }
  | _ => none }
def fnExactCleanRow : OpenClaim := { program := "ytephpieeibcihaagreatdoor", sum := "06512deea941e8514fee869ba7527e21c302cd1a19e718d9794a75f774a2d44b", func := "loop.example/kilndeed/laws.FnExactClean", spec := "fnExactClean", inPlace := ["internal/bytealg.abigen_runtime_cmpstring"], unfollowed := true, recurses := true, named := ["internal/strconv.uint64pow10", "math/bits.deBruijn32tab", "math/bits.deBruijn64tab"], apart := false, laid := [("math/bits.deBruijn32tab", laid_math_bits_deBruijn32tab), ("math/bits.deBruijn64tab", laid_math_bits_deBruijn64tab), ("internal/strconv.uint64pow10", laid_internal_strconv_uint64pow10)] }
def FnExactCleanSaid : Prop := fnExactCleanRow.holds Tryz.pinned (OpenSpec.ofChange fnExactCleanSpec)

/-- ITS FALSE NEIGHBOUR: 'it returns false'. Refute it at one input. -/
def fnExactCleanWrong : ChangeSpec := { name := "fnExactClean", fn := fun _ => fun
  | [d1, d2] => { results := [.lit (.bool false)], args := [d1, d2] }
  | _ => none }
def FnExactCleanWrongFalsely : Prop := fnExactCleanRow.holds Tryz.pinned (OpenSpec.ofChange fnExactCleanWrong)

/-- 'laws.FnExactWhy': WHATEVER THE INPUT: true; the input reads as it did. -/
def fnExactWhySpec : ChangeSpec := { name := "fnExactWhy", vars := ["loop.example/kilndeed/impl.words"], fn := fun _ => fun
  | [d1, d2, g1] => { results := [.lit (.bool true)], args := [d1, d2], vars := [g1] }
  | _ => none }
def fnExactWhyRow : OpenClaim := { program := "ytephpieeibcihaagreatdoor", sum := "06512deea941e8514fee869ba7527e21c302cd1a19e718d9794a75f774a2d44b", func := "loop.example/kilndeed/laws.FnExactWhy", spec := "fnExactWhy", inPlace := ["internal/abi.NoEscape"], unfollowed := true, recurses := true, named := ["loop.example/kilndeed/impl.words", "internal/strconv.uint64pow10", "math/bits.deBruijn32tab", "math/bits.deBruijn64tab"], apart := false, laid := [("math/bits.deBruijn32tab", laid_math_bits_deBruijn32tab), ("math/bits.deBruijn64tab", laid_math_bits_deBruijn64tab), ("internal/strconv.uint64pow10", laid_internal_strconv_uint64pow10), ("loop.example/kilndeed/impl.words", laid_loop_example_kilndeed_impl_words)] }
def FnExactWhySaid : Prop := fnExactWhyRow.holds Tryz.pinned (OpenSpec.ofChange fnExactWhySpec)

/-- ITS FALSE NEIGHBOUR: 'it returns false'. Refute it at one input. -/
def fnExactWhyWrong : ChangeSpec := { name := "fnExactWhy", vars := ["loop.example/kilndeed/impl.words"], fn := fun _ => fun
  | [d1, d2, g1] => { results := [.lit (.bool false)], args := [d1, d2], vars := [g1] }
  | _ => none }
def FnExactWhyWrongFalsely : Prop := fnExactWhyRow.holds Tryz.pinned (OpenSpec.ofChange fnExactWhyWrong)

/-- 'laws.FnExactAudit': WHATEVER THE INPUT: true; the input reads as it did. -/
def fnExactAuditSpec : ChangeSpec := { name := "fnExactAudit", fn := fun _ => fun
  | [d1, d2] => { results := [.lit (.bool true)], args := [d1, d2] }
  | _ => none }
def fnExactAuditRow : OpenClaim := { program := "ytephpieeibcihaagreatdoor", sum := "06512deea941e8514fee869ba7527e21c302cd1a19e718d9794a75f774a2d44b", func := "loop.example/kilndeed/laws.FnExactAudit", spec := "fnExactAudit", inPlace := ["internal/bytealg.abigen_runtime_cmpstring"], unfollowed := true, recurses := true, named := ["internal/strconv.uint64pow10", "math/bits.deBruijn32tab", "math/bits.deBruijn64tab"], apart := false, laid := [("math/bits.deBruijn32tab", laid_math_bits_deBruijn32tab), ("math/bits.deBruijn64tab", laid_math_bits_deBruijn64tab), ("internal/strconv.uint64pow10", laid_internal_strconv_uint64pow10)] }
def FnExactAuditSaid : Prop := fnExactAuditRow.holds Tryz.pinned (OpenSpec.ofChange fnExactAuditSpec)

/-- ITS FALSE NEIGHBOUR: 'it returns false'. Refute it at one input. -/
def fnExactAuditWrong : ChangeSpec := { name := "fnExactAudit", fn := fun _ => fun
  | [d1, d2] => { results := [.lit (.bool false)], args := [d1, d2] }
  | _ => none }
def FnExactAuditWrongFalsely : Prop := fnExactAuditRow.holds Tryz.pinned (OpenSpec.ofChange fnExactAuditWrong)

/-- 'laws.FnExactMake': WHATEVER THE INPUT: true; the input reads as it did. -/
def fnExactMakeSpec : ChangeSpec := { name := "fnExactMake", fn := fun _ => fun
  | [d1, d2] => { results := [.lit (.bool true)], args := [d1, d2] }
  | _ => none }
def fnExactMakeRow : OpenClaim := { program := "ytephpieeibcihaagreatdoor", sum := "06512deea941e8514fee869ba7527e21c302cd1a19e718d9794a75f774a2d44b", func := "loop.example/kilndeed/laws.FnExactMake", spec := "fnExactMake", inPlace := ["internal/bytealg.abigen_runtime_cmpstring"], unfollowed := true, recurses := true, named := ["internal/strconv.uint64pow10", "math/bits.deBruijn32tab", "math/bits.deBruijn64tab"], apart := false, laid := [("math/bits.deBruijn32tab", laid_math_bits_deBruijn32tab), ("math/bits.deBruijn64tab", laid_math_bits_deBruijn64tab), ("internal/strconv.uint64pow10", laid_internal_strconv_uint64pow10)] }
def FnExactMakeSaid : Prop := fnExactMakeRow.holds Tryz.pinned (OpenSpec.ofChange fnExactMakeSpec)

/-- ITS FALSE NEIGHBOUR: 'it returns false'. Refute it at one input. -/
def fnExactMakeWrong : ChangeSpec := { name := "fnExactMake", fn := fun _ => fun
  | [d1, d2] => { results := [.lit (.bool false)], args := [d1, d2] }
  | _ => none }
def FnExactMakeWrongFalsely : Prop := fnExactMakeRow.holds Tryz.pinned (OpenSpec.ofChange fnExactMakeWrong)

/-- 'laws.FnExactReadAccount': WHATEVER THE INPUT: true; the input reads as it did. -/
def fnExactReadAccountSpec : ChangeSpec := { name := "fnExactReadAccount", vars := ["loop.example/kilndeed/impl.words"], fn := fun _ => fun
  | [d, g1] => { results := [.lit (.bool true)], args := [d], vars := [g1] }
  | _ => none }
def fnExactReadAccountRow : OpenClaim := { program := "ytephpieeibcihaagreatdoor", sum := "06512deea941e8514fee869ba7527e21c302cd1a19e718d9794a75f774a2d44b", func := "loop.example/kilndeed/laws.FnExactReadAccount", spec := "fnExactReadAccount", inPlace := ["internal/bytealg.CountString", "internal/bytealg.IndexByteString", "internal/bytealg.IndexString", "internal/abi.NoEscape"], unfollowed := true, recurses := true, named := ["unicode/utf8.first", "unicode/utf8.acceptRanges", "internal/bytealg.MaxLen", "loop.example/kilndeed/impl.words", "strconv.ErrSyntax", "strconv.ErrRange", "internal/strconv.uint64pow10", "math/bits.deBruijn32tab", "math/bits.deBruijn64tab"], apart := false, laid := [("math/bits.deBruijn32tab", laid_math_bits_deBruijn32tab), ("math/bits.deBruijn64tab", laid_math_bits_deBruijn64tab), ("internal/strconv.uint64pow10", laid_internal_strconv_uint64pow10), ("unicode/utf8.acceptRanges", laid_unicode_utf8_acceptRanges), ("strconv.ErrRange", laid_strconv_ErrRange), ("strconv.ErrSyntax", laid_strconv_ErrSyntax), ("loop.example/kilndeed/impl.words", laid_loop_example_kilndeed_impl_words), ("unicode/utf8.first", laid_unicode_utf8_first)] }
def FnExactReadAccountSaid : Prop := fnExactReadAccountRow.holds Tryz.pinned (OpenSpec.ofChange fnExactReadAccountSpec)

/-- ITS FALSE NEIGHBOUR: 'it returns false'. Refute it at one input. -/
def fnExactReadAccountWrong : ChangeSpec := { name := "fnExactReadAccount", vars := ["loop.example/kilndeed/impl.words"], fn := fun _ => fun
  | [d, g1] => { results := [.lit (.bool false)], args := [d], vars := [g1] }
  | _ => none }
def FnExactReadAccountWrongFalsely : Prop := fnExactReadAccountRow.holds Tryz.pinned (OpenSpec.ofChange fnExactReadAccountWrong)

/-- 'laws.FnExactStale': WHATEVER THE INPUT: true; the input reads as it did. -/
def fnExactStaleSpec : ChangeSpec := { name := "fnExactStale", fn := fun _ => fun
  | [d1, d2] => { results := [.lit (.bool true)], args := [d1, d2] }
  | _ => none }
def fnExactStaleRow : OpenClaim := { program := "ytephpieeibcihaagreatdoor", sum := "06512deea941e8514fee869ba7527e21c302cd1a19e718d9794a75f774a2d44b", func := "loop.example/kilndeed/laws.FnExactStale", spec := "fnExactStale", inPlace := ["internal/bytealg.abigen_runtime_cmpstring"], unfollowed := true, recurses := true, named := ["internal/strconv.uint64pow10", "math/bits.deBruijn32tab", "math/bits.deBruijn64tab"], apart := false, laid := [("math/bits.deBruijn32tab", laid_math_bits_deBruijn32tab), ("math/bits.deBruijn64tab", laid_math_bits_deBruijn64tab), ("internal/strconv.uint64pow10", laid_internal_strconv_uint64pow10)] }
def FnExactStaleSaid : Prop := fnExactStaleRow.holds Tryz.pinned (OpenSpec.ofChange fnExactStaleSpec)

/-- ITS FALSE NEIGHBOUR: 'it returns false'. Refute it at one input. -/
def fnExactStaleWrong : ChangeSpec := { name := "fnExactStale", fn := fun _ => fun
  | [d1, d2] => { results := [.lit (.bool false)], args := [d1, d2] }
  | _ => none }
def FnExactStaleWrongFalsely : Prop := fnExactStaleRow.holds Tryz.pinned (OpenSpec.ofChange fnExactStaleWrong)

/- THE SECOND FORM. 'bulk': how many values and letters a reading holds, each counted each time it is reached (what is shared counts as often as it is met; a slice's spare places count too). A statement '..UptoSaid' is the law's where the arguments, and the package variables that the reading takes, are together of bulk at most 1048576: NARROWER than '..Said'. Prove '..Said' where nothing that the law and all that it calls make is longer than what came in: it says more and counts as full. Else prove '..UptoSaid'. A law counts once. -/
mutual
def uptoBulk {H : Type} : DataW H → Nat
  | .lit (.string bytes) => bytes.length + 1
  | .lit _ => 1
  | .nil => 1
  | .ptr d => uptoBulk d + 1
  | .slice elems spare => uptoBulkAll elems + uptoBulkAll spare + 1
  | .agg parts => uptoBulkAll parts + 1
  | .iface _ d => uptoBulk d + 1
  | .map entries => uptoBulkEntries entries + 1
  | .held _ => 1
def uptoBulkAll {H : Type} : List (DataW H) → Nat
  | [] => 0
  | d :: r => uptoBulk d + uptoBulkAll r
def uptoBulkEntries {H : Type} : List (Lit × DataW H) → Nat
  | [] => 0
  | x :: r => uptoBulkEntry x + uptoBulkEntries r
def uptoBulkEntry {H : Type} : Lit × DataW H → Nat
  | (.string bytes, d) => bytes.length + uptoBulk d + 1
  | (_, d) => uptoBulk d + 1
 end
def uptoSmall : (H : Type) → List (DataW H) → Bool := fun _ ds => decide (uptoBulkAll ds ≤ 1048576)
def OpenSpec.upto (s : _root_.Go.ChangeSpec) : _root_.Go.OpenSpec := { _root_.Go.OpenSpec.ofChange s with cond := some uptoSmall }

/-- 'laws.FnExactTexts', WHERE WHAT IT READS IS OF BULK AT MOST 1048576: true; the input reads as it did. -/
def fnExactTextsUptoRow : OpenClaim := { program := "ytephpieeibcihaagreatdoor", sum := "06512deea941e8514fee869ba7527e21c302cd1a19e718d9794a75f774a2d44b", func := "loop.example/kilndeed/laws.FnExactTexts", spec := "fnExactTexts", unfollowed := true, recurses := true, named := ["internal/strconv.uint64pow10", "math/bits.deBruijn32tab", "math/bits.deBruijn64tab"], apart := false, laid := [("math/bits.deBruijn32tab", laid_math_bits_deBruijn32tab), ("math/bits.deBruijn64tab", laid_math_bits_deBruijn64tab), ("internal/strconv.uint64pow10", laid_internal_strconv_uint64pow10)], narrowed := true }
def FnExactTextsUptoSaid : Prop := fnExactTextsUptoRow.holds Tryz.pinned (OpenSpec.upto fnExactTextsSpec)

/-- 'laws.FnExactClean', WHERE WHAT IT READS IS OF BULK AT MOST 1048576: true; the input reads as it did. -/
def fnExactCleanUptoRow : OpenClaim := { program := "ytephpieeibcihaagreatdoor", sum := "06512deea941e8514fee869ba7527e21c302cd1a19e718d9794a75f774a2d44b", func := "loop.example/kilndeed/laws.FnExactClean", spec := "fnExactClean", inPlace := ["internal/bytealg.abigen_runtime_cmpstring"], unfollowed := true, recurses := true, named := ["internal/strconv.uint64pow10", "math/bits.deBruijn32tab", "math/bits.deBruijn64tab"], apart := false, laid := [("math/bits.deBruijn32tab", laid_math_bits_deBruijn32tab), ("math/bits.deBruijn64tab", laid_math_bits_deBruijn64tab), ("internal/strconv.uint64pow10", laid_internal_strconv_uint64pow10)], narrowed := true }
def FnExactCleanUptoSaid : Prop := fnExactCleanUptoRow.holds Tryz.pinned (OpenSpec.upto fnExactCleanSpec)

/-- 'laws.FnExactWhy', WHERE WHAT IT READS IS OF BULK AT MOST 1048576: true; the input reads as it did. -/
def fnExactWhyUptoRow : OpenClaim := { program := "ytephpieeibcihaagreatdoor", sum := "06512deea941e8514fee869ba7527e21c302cd1a19e718d9794a75f774a2d44b", func := "loop.example/kilndeed/laws.FnExactWhy", spec := "fnExactWhy", inPlace := ["internal/abi.NoEscape"], unfollowed := true, recurses := true, named := ["loop.example/kilndeed/impl.words", "internal/strconv.uint64pow10", "math/bits.deBruijn32tab", "math/bits.deBruijn64tab"], apart := false, laid := [("math/bits.deBruijn32tab", laid_math_bits_deBruijn32tab), ("math/bits.deBruijn64tab", laid_math_bits_deBruijn64tab), ("internal/strconv.uint64pow10", laid_internal_strconv_uint64pow10), ("loop.example/kilndeed/impl.words", laid_loop_example_kilndeed_impl_words)], narrowed := true }
def FnExactWhyUptoSaid : Prop := fnExactWhyUptoRow.holds Tryz.pinned (OpenSpec.upto fnExactWhySpec)

/-- 'laws.FnExactAudit', WHERE WHAT IT READS IS OF BULK AT MOST 1048576: true; the input reads as it did. -/
def fnExactAuditUptoRow : OpenClaim := { program := "ytephpieeibcihaagreatdoor", sum := "06512deea941e8514fee869ba7527e21c302cd1a19e718d9794a75f774a2d44b", func := "loop.example/kilndeed/laws.FnExactAudit", spec := "fnExactAudit", inPlace := ["internal/bytealg.abigen_runtime_cmpstring"], unfollowed := true, recurses := true, named := ["internal/strconv.uint64pow10", "math/bits.deBruijn32tab", "math/bits.deBruijn64tab"], apart := false, laid := [("math/bits.deBruijn32tab", laid_math_bits_deBruijn32tab), ("math/bits.deBruijn64tab", laid_math_bits_deBruijn64tab), ("internal/strconv.uint64pow10", laid_internal_strconv_uint64pow10)], narrowed := true }
def FnExactAuditUptoSaid : Prop := fnExactAuditUptoRow.holds Tryz.pinned (OpenSpec.upto fnExactAuditSpec)

/-- 'laws.FnExactMake', WHERE WHAT IT READS IS OF BULK AT MOST 1048576: true; the input reads as it did. -/
def fnExactMakeUptoRow : OpenClaim := { program := "ytephpieeibcihaagreatdoor", sum := "06512deea941e8514fee869ba7527e21c302cd1a19e718d9794a75f774a2d44b", func := "loop.example/kilndeed/laws.FnExactMake", spec := "fnExactMake", inPlace := ["internal/bytealg.abigen_runtime_cmpstring"], unfollowed := true, recurses := true, named := ["internal/strconv.uint64pow10", "math/bits.deBruijn32tab", "math/bits.deBruijn64tab"], apart := false, laid := [("math/bits.deBruijn32tab", laid_math_bits_deBruijn32tab), ("math/bits.deBruijn64tab", laid_math_bits_deBruijn64tab), ("internal/strconv.uint64pow10", laid_internal_strconv_uint64pow10)], narrowed := true }
def FnExactMakeUptoSaid : Prop := fnExactMakeUptoRow.holds Tryz.pinned (OpenSpec.upto fnExactMakeSpec)

/-- 'laws.FnExactReadAccount', WHERE WHAT IT READS IS OF BULK AT MOST 1048576: true; the input reads as it did. -/
def fnExactReadAccountUptoRow : OpenClaim := { program := "ytephpieeibcihaagreatdoor", sum := "06512deea941e8514fee869ba7527e21c302cd1a19e718d9794a75f774a2d44b", func := "loop.example/kilndeed/laws.FnExactReadAccount", spec := "fnExactReadAccount", inPlace := ["internal/bytealg.CountString", "internal/bytealg.IndexByteString", "internal/bytealg.IndexString", "internal/abi.NoEscape"], unfollowed := true, recurses := true, named := ["unicode/utf8.first", "unicode/utf8.acceptRanges", "internal/bytealg.MaxLen", "loop.example/kilndeed/impl.words", "strconv.ErrSyntax", "strconv.ErrRange", "internal/strconv.uint64pow10", "math/bits.deBruijn32tab", "math/bits.deBruijn64tab"], apart := false, laid := [("math/bits.deBruijn32tab", laid_math_bits_deBruijn32tab), ("math/bits.deBruijn64tab", laid_math_bits_deBruijn64tab), ("internal/strconv.uint64pow10", laid_internal_strconv_uint64pow10), ("unicode/utf8.acceptRanges", laid_unicode_utf8_acceptRanges), ("strconv.ErrRange", laid_strconv_ErrRange), ("strconv.ErrSyntax", laid_strconv_ErrSyntax), ("loop.example/kilndeed/impl.words", laid_loop_example_kilndeed_impl_words), ("unicode/utf8.first", laid_unicode_utf8_first)], narrowed := true }
def FnExactReadAccountUptoSaid : Prop := fnExactReadAccountUptoRow.holds Tryz.pinned (OpenSpec.upto fnExactReadAccountSpec)

/-- 'laws.FnExactStale', WHERE WHAT IT READS IS OF BULK AT MOST 1048576: true; the input reads as it did. -/
def fnExactStaleUptoRow : OpenClaim := { program := "ytephpieeibcihaagreatdoor", sum := "06512deea941e8514fee869ba7527e21c302cd1a19e718d9794a75f774a2d44b", func := "loop.example/kilndeed/laws.FnExactStale", spec := "fnExactStale", inPlace := ["internal/bytealg.abigen_runtime_cmpstring"], unfollowed := true, recurses := true, named := ["internal/strconv.uint64pow10", "math/bits.deBruijn32tab", "math/bits.deBruijn64tab"], apart := false, laid := [("math/bits.deBruijn32tab", laid_math_bits_deBruijn32tab), ("math/bits.deBruijn64tab", laid_math_bits_deBruijn64tab), ("internal/strconv.uint64pow10", laid_internal_strconv_uint64pow10)], narrowed := true }
def FnExactStaleUptoSaid : Prop := fnExactStaleUptoRow.holds Tryz.pinned (OpenSpec.upto fnExactStaleSpec)

end Rows
end Go.Proofs.YtephpieeibcihaaGreatDoor

/- FnExactReadResult: its row. -/
import Derived.Test.YtiimabmdokpmbaaRows
import Derived.Test.YtiimabmdokpmbaaF4
import Derived.Test.YtiimabmdokpmbaaRd
namespace Go.Proofs.Ytiimabmdokpmbaa.fnExactReadResult
open Go Go.Am Go.Proofs.Ytiimabmdokpmbaa
set_option linter.unusedVariables false
theorem own : ownKnob Try.prog.godebug = none := by kernel_rfl
set_option maxRecDepth 100000 in
theorem lifted (os : Os) (started : os.Started) (H : Type) (enc : TypeId × Value → H) :
    ReturnsInHanded {} Try.checked os 3 .any (Rows.fnExactReadResultSpec.pre6 enc Try.prog Try.f3 Rows.fnExactReadResultRow.domain false) (Rows.fnExactReadResultSpec.post enc Try.prog Try.f3 false true false false) := by
  refine law_lifted (C := Try.checked) (tb := 4) (R := c1A sstrR nilA) own started (by kernel_rfl) Try.func3
    (ChangeSpec.witness6 (enc := enc) (C := Try.checked) false ⟨#[], #[.string ⟨#[]⟩], []⟩ 8 (by kernel_rfl) (by kernel_rfl) (by kernel_rfl) (by kernel_rfl))
    rfl ?_ (by kernel_rfl) und4 (by kernel_rfl) (by kernel_rfl) ?_ ?_
  · intro ds hd
    match ds, hd with
    | [d], _ => exact ⟨rfl, rfl, rfl⟩
  · show RdA _ [_] _
    exact RdA.cons1 (Rd.str und9) (fun W base v h => by obtain ⟨s, rfl⟩ := WideShapes.okWide_string und9 h; rfl) RdA.nil
  · rintro S ⟨l, _⟩ vs ⟨v, F, _, rfl, ⟨hv, rfl, hl⟩, rfl⟩
    obtain rfl : v = str l := by simpa using hv
    exact fnExactReadResult_ac l S
theorem over : Rows.fnExactReadResultRow.holds Try.pinned (OpenSpec.ofChange Rows.fnExactReadResultSpec) :=
  OpenClaim.holds_of_wide 3 Try.f3 rfl rfl rfl rfl rfl rfl rfl ⟨rfl, rfl, rfl, rfl, rfl⟩ rfl rfl rfl rfl rfl (by kernel_rfl) Try.func3 (by kernel_rfl)
    (of_decide_eq_true (by kernel_rfl)) (by unfold Func.isWrapper; first | (rw [if_pos (by decide +kernel)]; kernel_rfl) | (rw [if_neg (by decide +kernel)]; exact ⟨rfl, rfl⟩))
    (fun os started H enc _ => lifted os started H enc)
theorem proved : Rows.FnExactReadResultSaid := over
#print axioms proved
end Go.Proofs.Ytiimabmdokpmbaa.fnExactReadResult
namespace Go.Proofs.Ytiimabmdokpmbaa
/-- The row, under a short name, for the claim. -/
theorem fnExactReadResult_holds : Rows.FnExactReadResultSaid := fnExactReadResult.proved
end Go.Proofs.Ytiimabmdokpmbaa

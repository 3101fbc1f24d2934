/- FnExactCheckSpace: its row. -/
import Derived.Test.YtehhjbomdohgoaaRows
import Derived.Test.YtehhjbomdohgoaaWFnExactCheckSpace
import Derived.Test.YtehhjbomdohgoaaRd2
namespace Go.Proofs.Ytehhjbomdohgoaa.fnExactCheckSpace
open Go Go.Am Go.Proofs.Ytehhjbomdohgoaa
set_option linter.unusedVariables false
theorem own : ownKnob Try.prog.godebug = none := by kernel_rfl
set_option maxRecDepth 100000 in
theorem lifted (os : Os) (started : os.Started) (H : Type) (enc : TypeId × Value → H) :
    ReturnsInHanded {} Try.checked os 3 .any (Rows.fnExactCheckSpaceSpec.pre6 enc Try.prog Try.f3 Rows.fnExactCheckSpaceRow.domain false) (Rows.fnExactCheckSpaceSpec.post enc Try.prog Try.f3 false true false false) := by
  refine law_lifted (C := Try.checked) (tb := 4) (R := csA (SpcR false) nilA) own started (by kernel_rfl) Try.func3
    (ChangeSpec.witness6 (enc := enc) (C := Try.checked) false ⟨#[], #[.agg #[.slice none 0 0, .slice none 0 0]], []⟩ 8 (by kernel_rfl) (by kernel_rfl) (by kernel_rfl) (by kernel_rfl))
    rfl ?_ (by kernel_rfl) und4 (by kernel_rfl) (by kernel_rfl) ?_ ?_
  · intro ds hd
    match ds, hd with
    | [d0], _ => exact ⟨rfl, rfl, rfl⟩
  · show RdA _ [_] _
    exact RdA.consS und25 rd_space RdA.nil
  · rintro S ⟨x0, _⟩ vs ⟨c0, F0, _, rfl, h0, rfl⟩
    exact fnExactCheckSpace_ac h0
theorem over : Rows.fnExactCheckSpaceRow.holds Try.pinned (OpenSpec.ofChange Rows.fnExactCheckSpaceSpec) :=
  OpenClaim.holds_of_wide 3 Try.f3 rfl rfl rfl rfl rfl rfl rfl ⟨rfl, rfl, rfl, rfl, rfl⟩ rfl rfl rfl rfl rfl (by kernel_rfl) Try.func3 (by kernel_rfl)
    (of_decide_eq_true (by kernel_rfl)) (by unfold Func.isWrapper; first | (rw [if_pos (by decide +kernel)]; kernel_rfl) | (rw [if_neg (by decide +kernel)]; exact ⟨rfl, rfl⟩))
    (fun os started H enc _ => lifted os started H enc)
theorem proved : Rows.FnExactCheckSpaceSaid := over
#print axioms proved
end Go.Proofs.Ytehhjbomdohgoaa.fnExactCheckSpace
namespace Go.Proofs.Ytehhjbomdohgoaa
/-- The row, under a short name, for the claim. -/
theorem fnExactCheckSpace_holds : Rows.FnExactCheckSpaceSaid := fnExactCheckSpace.proved
end Go.Proofs.Ytehhjbomdohgoaa

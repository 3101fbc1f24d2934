/- FnExactNames: its row. -/
import Derived.Test.YtehhjbomdohgoabRows
import Derived.Test.YtehhjbomdohgoabWFnExactNames
import Derived.Test.YtehhjbomdohgoabRd2
namespace Go.Proofs.Ytehhjbomdohgoab.fnExactNames
open Go Go.Am Go.Proofs.Ytehhjbomdohgoab
set_option linter.unusedVariables false
theorem own : ownKnob Try.prog.godebug = none := by kernel_rfl
set_option maxRecDepth 100000 in
theorem lifted (os : Os) (started : os.Started) (H : Type) (enc : TypeId × Value → H) :
    ReturnsInHanded {} Try.checked os 3 .any (Rows.fnExactNamesSpec.pre6 enc Try.prog Try.f3 Rows.fnExactNamesRow.domain false) (Rows.fnExactNamesSpec.post enc Try.prog Try.f3 false true false false) := by
  refine law_lifted (C := Try.checked) (tb := 4) (R := csA (DeedsR false) nilA) own started (by kernel_rfl) Try.func3
    (ChangeSpec.witness6 (enc := enc) (C := Try.checked) false ⟨#[], #[.agg #[.slice none 0 0]], []⟩ 8 (by kernel_rfl) (by kernel_rfl) (by kernel_rfl) (by kernel_rfl))
    rfl ?_ (by kernel_rfl) und4 (by kernel_rfl) (by kernel_rfl) ?_ ?_
  · intro ds hd
    match ds, hd with
    | [d0], _ => first | exact ⟨rfl, rfl, rfl⟩ | exact ⟨rfl, rfl, rfl, rfl⟩ | exact ⟨rfl, rfl⟩ | exact rfl
  · show RdA _ [_] _
    exact RdA.consS und24 rd_account RdA.nil
  · rintro S ⟨x0, _⟩ vs ⟨c0, F0, _, rfl, h0, rfl⟩
    obtain ⟨s0, rfl⟩ := List.length_eq_one_iff.1 (Rp.len h0)
    exact fnExactNames_ac h0
theorem over : Rows.fnExactNamesRow.holds Try.pinned (OpenSpec.ofChange Rows.fnExactNamesSpec) :=
  OpenClaim.holds_of_wide 3 Try.f3 rfl rfl rfl rfl rfl rfl rfl ⟨rfl, rfl, rfl, rfl, rfl⟩ rfl rfl rfl rfl rfl (by kernel_rfl) Try.func3 (by kernel_rfl)
    (of_decide_eq_true (by kernel_rfl)) (by unfold Func.isWrapper; first | (rw [if_pos (by decide +kernel)]; kernel_rfl) | (rw [if_neg (by decide +kernel)]; exact ⟨rfl, rfl⟩))
    (fun os started H enc _ => lifted os started H enc)
theorem proved : Rows.FnExactNamesSaid := over
#print axioms proved
end Go.Proofs.Ytehhjbomdohgoab.fnExactNames
namespace Go.Proofs.Ytehhjbomdohgoab
/-- The row, under a short name, for the claim. -/
theorem fnExactNames_holds : Rows.FnExactNamesSaid := fnExactNames.proved
end Go.Proofs.Ytehhjbomdohgoab

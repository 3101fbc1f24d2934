/- FnExactDepends: its row. -/
import Derived.Test.YtehhjbomdohgoabRows
import Derived.Test.YtehhjbomdohgoabWFnExactDepends
import Derived.Test.YtehhjbomdohgoabRd2
namespace Go.Proofs.Ytehhjbomdohgoab.fnExactDepends
open Go Go.Am Go.Proofs.Ytehhjbomdohgoab
set_option linter.unusedVariables false
theorem own : ownKnob Try.prog.godebug = none := by kernel_rfl
set_option maxRecDepth 100000 in
theorem lifted (os : Os) (started : os.Started) (H : Type) (enc : TypeId × Value → H) :
    ReturnsInHanded {} Try.checked os 4 .any (Rows.fnExactDependsSpec.pre6 enc Try.prog Try.f4 Rows.fnExactDependsRow.domain false) (Rows.fnExactDependsSpec.post enc Try.prog Try.f4 false true false false) := by
  refine law_lifted (C := Try.checked) (tb := 4) (R := csA (DeedsR false) (c1A sstrR nilA)) own started (by kernel_rfl) Try.func4
    (ChangeSpec.witness6 (enc := enc) (C := Try.checked) false ⟨#[], #[.agg #[.slice none 0 0], .string ⟨#[]⟩], []⟩ 8 (by kernel_rfl) (by kernel_rfl) (by kernel_rfl) (by kernel_rfl))
    rfl ?_ (by kernel_rfl) und4 (by kernel_rfl) (by kernel_rfl) ?_ ?_
  · intro ds hd
    match ds, hd with
    | [d0, d1], _ => first | exact ⟨rfl, rfl, rfl⟩ | exact ⟨rfl, rfl, rfl, rfl⟩ | exact ⟨rfl, rfl⟩ | exact rfl
  · show RdA _ [_, _] _
    exact RdA.consS und24 rd_account (RdA.cons1 (Rd.str und9) (fun W base v h => by obtain ⟨s, rfl⟩ := WideShapes.okWide_string und9 h; rfl) RdA.nil)
  · rintro S ⟨x0, x1, _⟩ vs ⟨c0, F0, _, rfl, h0, ⟨v1, F1, _, rfl, ⟨hv1, rfl, h1⟩, rfl⟩⟩
    obtain ⟨s0, rfl⟩ := List.length_eq_one_iff.1 (Rp.len h0)
    obtain rfl : v1 = str x1 := by simpa using hv1
    exact fnExactDepends_ac h0 h1
theorem over : Rows.fnExactDependsRow.holds Try.pinned (OpenSpec.ofChange Rows.fnExactDependsSpec) :=
  OpenClaim.holds_of_wide 4 Try.f4 rfl rfl rfl rfl rfl rfl rfl ⟨rfl, rfl, rfl, rfl, rfl⟩ rfl rfl rfl rfl rfl (by kernel_rfl) Try.func4 (by kernel_rfl)
    (of_decide_eq_true (by kernel_rfl)) (by unfold Func.isWrapper; first | (rw [if_pos (by decide +kernel)]; kernel_rfl) | (rw [if_neg (by decide +kernel)]; exact ⟨rfl, rfl⟩))
    (fun os started H enc _ => lifted os started H enc)
theorem proved : Rows.FnExactDependsSaid := over
#print axioms proved
end Go.Proofs.Ytehhjbomdohgoab.fnExactDepends
namespace Go.Proofs.Ytehhjbomdohgoab
/-- The row, under a short name, for the claim. -/
theorem fnExactDepends_holds : Rows.FnExactDependsSaid := fnExactDepends.proved
end Go.Proofs.Ytehhjbomdohgoab

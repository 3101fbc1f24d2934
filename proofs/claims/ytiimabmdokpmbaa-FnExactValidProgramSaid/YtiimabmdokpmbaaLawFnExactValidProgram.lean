/- FnExactValidProgram: its row. -/
import Derived.Test.YtiimabmdokpmbaaRows
import Derived.Test.YtiimabmdokpmbaaF3
import Derived.Test.YtiimabmdokpmbaaRd
namespace Go.Proofs.Ytiimabmdokpmbaa.fnExactValidProgram
open Go Go.Am Go.Proofs.Ytiimabmdokpmbaa
set_option linter.unusedVariables false
theorem own : ownKnob Try.prog.godebug = none := by kernel_rfl
set_option maxRecDepth 100000 in
theorem lifted (os : Os) (started : os.Started) (H : Type) (enc : TypeId × Value → H) :
    ReturnsInHanded {} Try.checked os 4 .any (Rows.fnExactValidProgramSpec.pre6 enc Try.prog Try.f4 Rows.fnExactValidProgramRow.domain false) (Rows.fnExactValidProgramSpec.post enc Try.prog Try.f4 false true false false) := by
  refine law_lifted (C := Try.checked) (tb := 4) (R := csA (CodeR false) nilA) own started (by kernel_rfl) Try.func4
    (ChangeSpec.witness6 (enc := enc) (C := Try.checked) false ⟨#[], #[.agg #[.slice none 0 0]], []⟩ 8 (by kernel_rfl) (by kernel_rfl) (by kernel_rfl) (by kernel_rfl))
    rfl ?_ (by kernel_rfl) und4 (by kernel_rfl) (by kernel_rfl) ?_ ?_
  · intro ds hd
    match ds, hd with
    | [d], _ => exact ⟨rfl, rfl, rfl⟩
  · show RdA _ [_] _
    exact RdA.consS und32 rd_program RdA.nil
  · rintro S ⟨l, _⟩ vs ⟨c, F, _, rfl, h, rfl⟩
    obtain ⟨a, z, rfl⟩ : ∃ a z, c = [.slice a l.length z] := by
      obtain ⟨s, rfl⟩ := List.length_eq_one_iff.1 (Rp.len h)
      obtain ⟨a, z, rfl⟩ := h.form
      exact ⟨a, z, rfl⟩
    exact fnExactValidProgram_ac h
theorem over : Rows.fnExactValidProgramRow.holds Try.pinned (OpenSpec.ofChange Rows.fnExactValidProgramSpec) :=
  OpenClaim.holds_of_wide 4 Try.f4 rfl rfl rfl rfl rfl rfl rfl ⟨rfl, rfl, rfl, rfl, rfl⟩ rfl rfl rfl rfl rfl (by kernel_rfl) Try.func4 (by kernel_rfl)
    (of_decide_eq_true (by kernel_rfl)) (by unfold Func.isWrapper; first | (rw [if_pos (by decide +kernel)]; kernel_rfl) | (rw [if_neg (by decide +kernel)]; exact ⟨rfl, rfl⟩))
    (fun os started H enc _ => lifted os started H enc)
theorem proved : Rows.FnExactValidProgramSaid := over
#print axioms proved
end Go.Proofs.Ytiimabmdokpmbaa.fnExactValidProgram
namespace Go.Proofs.Ytiimabmdokpmbaa
/-- The row, under a short name, for the claim. -/
theorem fnExactValidProgram_holds : Rows.FnExactValidProgramSaid := fnExactValidProgram.proved
end Go.Proofs.Ytiimabmdokpmbaa

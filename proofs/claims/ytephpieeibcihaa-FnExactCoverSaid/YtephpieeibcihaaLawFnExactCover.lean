/- FnExactCover: its row. -/
import Derived.Test.YtephpieeibcihaaRows
import Derived.Test.YtephpieeibcihaaWFnExactCover
import Derived.Test.YtephpieeibcihaaRd4
namespace Go.Proofs.Ytephpieeibcihaa.fnExactCover
open Go Go.Am Go.Proofs.Ytephpieeibcihaa
set_option linter.unusedVariables false
theorem own : ownKnob Try.prog.godebug = none := by kernel_rfl
set_option maxRecDepth 100000 in
theorem lifted (os : Os) (started : os.Started) (H : Type) (enc : TypeId × Value → H) :
    ReturnsInHanded {} Try.checked os 3 .any (Rows.fnExactCoverSpec.pre6 enc Try.prog Try.f3 Rows.fnExactCoverRow.domain false) (Rows.fnExactCoverSpec.post enc Try.prog Try.f3 false true false false) := by
  refine law_lifted (C := Try.checked) (tb := 4) (R := c1A (AccsR false) (c1A sstrR nilA)) own started (by kernel_rfl) Try.func3
    (ChangeSpec.witness6 (enc := enc) (C := Try.checked) false ⟨#[], #[.slice none 0 0, .string ⟨#[]⟩], []⟩ 8 (by kernel_rfl) (by kernel_rfl) (by kernel_rfl) (by kernel_rfl))
    rfl ?_ (by kernel_rfl) und4 (by kernel_rfl) (by kernel_rfl) ?_ ?_
  · intro ds hd
    match ds, hd with
    | [d0, d1], _ => first | exact ⟨rfl, rfl, rfl⟩ | exact ⟨rfl, rfl, rfl, rfl⟩ | exact ⟨rfl, rfl⟩ | exact rfl
  · show RdA _ [_, _] _
    exact RdA.cons1 rd_accounts (fun W base v h => by obtain ⟨_, _, _, rfl⟩ := WideShapes.okWide_slice und22 h; rfl) (RdA.cons1 (Rd.str und9) (fun W base v h => by obtain ⟨s, rfl⟩ := WideShapes.okWide_string und9 h; rfl) RdA.nil)
  · rintro S ⟨x0, x1, _⟩ vs ⟨v0, F0, _, rfl, h0, ⟨v1, F1, _, rfl, ⟨hv1, rfl, h1⟩, rfl⟩⟩
    obtain rfl : v1 = str x1 := by simpa using hv1
    exact fnExactCover_ac h0 h1
theorem over : Rows.fnExactCoverRow.holds Try.pinned (OpenSpec.ofChange Rows.fnExactCoverSpec) :=
  OpenClaim.holds_of_wide 3 Try.f3 rfl rfl rfl rfl rfl rfl rfl ⟨rfl, rfl, rfl, rfl, rfl⟩ rfl rfl rfl rfl rfl (by kernel_rfl) Try.func3 (by kernel_rfl)
    (of_decide_eq_true (by kernel_rfl)) (by unfold Func.isWrapper; first | (rw [if_pos (by decide +kernel)]; kernel_rfl) | (rw [if_neg (by decide +kernel)]; exact ⟨rfl, rfl⟩))
    (fun os started H enc _ => lifted os started H enc)
theorem proved : Rows.FnExactCoverSaid := over
#print axioms proved
end Go.Proofs.Ytephpieeibcihaa.fnExactCover
namespace Go.Proofs.Ytephpieeibcihaa
/-- The row, under a short name, for the claim. -/
theorem fnExactCover_holds : Rows.FnExactCoverSaid := fnExactCover.proved
end Go.Proofs.Ytephpieeibcihaa

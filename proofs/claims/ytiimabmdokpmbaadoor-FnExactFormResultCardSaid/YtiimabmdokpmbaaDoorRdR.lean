/- The reading of a result. No condition. -/
import Derived.Test.YtiimabmdokpmbaaDoorM
import Derived.Test.YtiimabmdokpmbaaDoorAm24
namespace Go.Proofs.YtiimabmdokpmbaaDoor
open Go Go.Am
set_option linter.unusedSimpArgs false
set_option linter.unusedVariables false
theorem rd_strs : Rd Tryd.prog 22 (StrsR false) :=
  Rd.slice (R := strR) (Rd.str und9) und22 (by kernel_rfl) (by decide) (of_decide_eq_true (by kernel_rfl))
theorem rd_result : Rd Tryd.prog 24 (ResOkR false) := by
  refine (Rd.struct (R := PrR (intR .i64) (PrR sstrR (PrR (StrsR false) unitR))) und24 (by kernel_rfl) ?_).imp ?_
  · show RdFs _ [_, _, _] _
    exact RdFs.cons (.int (by simp)) (RdFs.cons (.str (by simp)) (RdFs.cons rd_strs RdFs.nil))
  rintro H ⟨code, text, chain, _⟩ c F ⟨_, _, _, _, rfl, rfl, ⟨rfl, rfl, h1⟩, _, _, _, _, rfl, rfl, ⟨rfl, rfl, h2⟩, c3, _, F3, _, rfl, rfl, h3, rfl, rfl⟩
  obtain ⟨s, rfl⟩ := List.length_eq_one_iff.1 (Rp.len h3)
  exact ⟨⟨code, text, chain⟩, F3, ⟨s, rfl, by simpa using h3⟩, h2⟩
end Go.Proofs.YtiimabmdokpmbaaDoor

/- The readings of the program's data. No condition. -/
import Derived.Test.YtephpieeibcihaaDoorDat2
import Derived.Test.YtephpieeibcihaaDoorTypes
import Derived.Test.YtephpieeibcihaaDoorAm24
namespace Go.Proofs.YtephpieeibcihaaDoor
open Go Go.Am
set_option linter.unusedSimpArgs false
set_option linter.unusedVariables false

theorem i64_wf {n : Int} (h : (Lit.int .i64 n).wf = true) : i64 n := by
  have e : IntKind.i64.min = -9223372036854775808 := by decide
  simp [Lit.wf, e] at h
  exact ⟨h.1, by omega⟩
theorem rd_ins : Rd Tryd.prog 204 InsR := by
  refine (Rd.struct (R := PrR (intR .i64) (PrR sstrR (PrR (intR .i64) unitR))) und204 (by kernel_rfl) ?_).imp ?_
  · show RdFs _ [_, _, _] _
    exact RdFs.cons (.int (by simp)) (RdFs.cons (.str (by simp)) (RdFs.cons (.int (by simp)) RdFs.nil))
  rintro H ⟨op, text, n, _⟩ c F ⟨_, _, _, _, rfl, rfl, ⟨rfl, rfl, h1⟩, _, _, _, _, rfl, rfl, ⟨rfl, rfl, h2⟩, _, _, _, _, rfl, rfl, ⟨rfl, rfl, h3⟩, rfl, rfl⟩
  refine ⟨⟨op, text, n⟩, [], rfl, rfl, ?_, h2, ?_⟩
  · exact i64_wf h1
  · exact i64_wf h3
theorem rd_code : Rd Tryd.prog 111 (CodeR false) := rd_ins.slice und111 (by kernel_rfl) (by decide) (of_decide_eq_true (by kernel_rfl))
theorem rd_program : Rd Tryd.prog 113 (CodeR false) := by
  refine (Rd.struct (R := PrR (CodeR false) unitR) und113 (by kernel_rfl) ?_).imp ?_
  · show RdFs _ [_] _
    exact RdFs.cons rd_code RdFs.nil
  rintro H ⟨l, _⟩ c F ⟨c1, _, F1, _, rfl, rfl, h, rfl, rfl⟩
  exact ⟨l, F1, by simpa using h⟩
end Go.Proofs.YtephpieeibcihaaDoor

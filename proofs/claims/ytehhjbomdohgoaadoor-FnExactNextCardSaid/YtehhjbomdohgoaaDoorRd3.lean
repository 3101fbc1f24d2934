import Derived.Test.YtehhjbomdohgoaaDoorDat
import Derived.Test.YtehhjbomdohgoaaDoorTypes
import Derived.Test.YtehhjbomdohgoaaDoorAm24
import Derived.Test.YtehhjbomdohgoaaDoorDat2
/- The readings of the program's data. No condition. -/
namespace Go.Proofs.YtehhjbomdohgoaaDoor
open Go Go.Am
set_option linter.unusedSimpArgs false
set_option linter.unusedVariables false

theorem i64_wf {n : Int} (h : (Lit.int .i64 n).wf = true) : i64 n := by
  have e : IntKind.i64.min = -9223372036854775808 := by decide
  simp [Lit.wf, e] at h
  exact ⟨h.1, by omega⟩
theorem rd_ins : Rd Tryd.prog 130 InsR := by
  refine (Rd.struct (R := PrR (intR .i64) (PrR sstrR (PrR (intR .i64) unitR))) und130 (by kernel_rfl) ?_).imp ?_
  · show RdFs _ [_, _, _] _
    exact RdFs.cons (.int (by simp)) (RdFs.cons (.str (by simp)) (RdFs.cons (.int (by simp)) RdFs.nil))
  rintro H ⟨op, text, n, _⟩ c F ⟨_, _, _, _, rfl, rfl, ⟨rfl, rfl, h1⟩, _, _, _, _, rfl, rfl, ⟨rfl, rfl, h2⟩, _, _, _, _, rfl, rfl, ⟨rfl, rfl, h3⟩, rfl, rfl⟩
  refine ⟨⟨op, text, n⟩, [], rfl, rfl, ?_, h2, ?_⟩
  · exact i64_wf h1
  · exact i64_wf h3
theorem rd_code : Rd Tryd.prog 33 (CodeR false) := rd_ins.slice und33 (by kernel_rfl) (by decide) (of_decide_eq_true (by kernel_rfl))
theorem rd_program : Rd Tryd.prog 35 (CodeR false) := by
  refine (Rd.struct (R := PrR (CodeR false) unitR) und35 (by kernel_rfl) ?_).imp ?_
  · show RdFs _ [_] _
    exact RdFs.cons rd_code RdFs.nil
  rintro H ⟨l, _⟩ c F ⟨c1, _, F1, _, rfl, rfl, h, rfl, rfl⟩
  exact ⟨l, F1, by simpa using h⟩
end Go.Proofs.YtehhjbomdohgoaaDoor

/- The readings of replies. No condition. -/
set_option linter.unusedSimpArgs false
set_option linter.unusedVariables false
namespace Go.Proofs.YtehhjbomdohgoaaDoor
open Go Go.Am
theorem rd_reply : Rd Tryd.prog 97 RplR := by
  refine (Rd.struct (R := PrR boolR (PrR (intR .i64) (PrR sstrR unitR))) und97 (by kernel_rfl) ?_).imp ?_
  · show RdFs _ [_, _, _] _
    exact RdFs.cons (.bool (by simp)) (RdFs.cons (.int (by simp)) (RdFs.cons (.str (by simp)) RdFs.nil))
  rintro H ⟨has, code, text, _⟩ c F ⟨_, _, _, _, rfl, rfl, ⟨rfl, rfl, h1⟩, _, _, _, _, rfl, rfl, ⟨rfl, rfl, h2⟩, _, _, _, _, rfl, rfl, ⟨rfl, rfl, h3⟩, rfl, rfl⟩
  exact ⟨⟨has, code, text⟩, [], rfl, rfl, i64_wf h2, h3⟩
theorem rd_replies : Rd Tryd.prog 44 (RplsR false) := rd_reply.slice und44 (by kernel_rfl) (by decide) (of_decide_eq_true (by kernel_rfl))
end Go.Proofs.YtehhjbomdohgoaaDoor

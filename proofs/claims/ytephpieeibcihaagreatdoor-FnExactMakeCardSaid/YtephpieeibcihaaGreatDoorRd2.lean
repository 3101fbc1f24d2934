import Derived.Test.YtephpieeibcihaaGreatDoorDat2
import Derived.Test.YtephpieeibcihaaGreatDoorTypes
import Derived.Test.YtephpieeibcihaaGreatDoorAm24
set_option linter.all false
namespace Go.Proofs.YtephpieeibcihaaGreatDoor
open Go Go.Am
theorem i64_wf {n : Int} (h : (Lit.int .i64 n).wf = true) : i64 n := by
  have e : IntKind.i64.min = -9223372036854775808 := by decide
  simp [Lit.wf, e] at h
  exact ⟨h.1, by omega⟩
theorem rd_ins : Rd Tryz.prog 312 InsR := by
  refine (Rd.struct (R := PrR (intR .i64) (PrR sstrR (PrR (intR .i64) unitR))) und312 (by kernel_rfl) ?_).imp ?_
  · show RdFs _ [_, _, _] _
    exact RdFs.cons (.int (by simp)) (RdFs.cons (.str (by simp)) (RdFs.cons (.int (by simp)) RdFs.nil))
  rintro H ⟨op, text, n, _⟩ c F ⟨_, _, _, _, rfl, rfl, ⟨rfl, rfl, h1⟩, _, _, _, _, rfl, rfl, ⟨rfl, rfl, h2⟩, _, _, _, _, rfl, rfl, ⟨rfl, rfl, h3⟩, rfl, rfl⟩
  refine ⟨⟨op, text, n⟩, [], rfl, rfl, ?_, h2, ?_⟩
  · exact i64_wf h1
  · exact i64_wf h3
theorem rd_code : Rd Tryz.prog 157 (CodeR false) := rd_ins.slice und157 (by kernel_rfl) (by decide) (of_decide_eq_true (by kernel_rfl))
theorem rd_program : Rd Tryz.prog 159 (CodeR false) := by
  refine (Rd.struct (R := PrR (CodeR false) unitR) und159 (by kernel_rfl) ?_).imp ?_
  · show RdFs _ [_] _
    exact RdFs.cons rd_code RdFs.nil
  rintro H ⟨l, _⟩ c F ⟨c1, _, F1, _, rfl, rfl, h, rfl, rfl⟩
  exact ⟨l, F1, by simpa using h⟩
end Go.Proofs.YtephpieeibcihaaGreatDoor
namespace Go.Proofs.YtephpieeibcihaaGreatDoor
open Go Go.Am
theorem rd_source : Rd Tryz.prog 155 SouR := by
  refine (Rd.struct (R := PrR sstrR (PrR sstrR unitR)) und155 (by kernel_rfl) ?_).imp ?_
  · show RdFs _ [_, _] _
    exact RdFs.cons (.str (by simp)) (RdFs.cons (.str (by simp)) RdFs.nil)
  rintro H ⟨name, text, _⟩ c F ⟨_, _, _, _, rfl, rfl, ⟨rfl, rfl, h1⟩, _, _, _, _, rfl, rfl, ⟨rfl, rfl, h2⟩, rfl, rfl⟩
  exact ⟨⟨name, text⟩, [], rfl, rfl, h1, h2⟩
theorem rd_sources : Rd Tryz.prog 33 (SousR false) := rd_source.slice und33 (by kernel_rfl) (by decide) (of_decide_eq_true (by kernel_rfl))
theorem rd_target : Rd Tryz.prog 161 (TgtR false) := by
  refine (Rd.struct (R := PrR sstrR (PrR (CodeR false) unitR)) und161 (by kernel_rfl) ?_).imp ?_
  · show RdFs _ [_, _] _
    exact RdFs.cons (.str (by simp)) (RdFs.cons rd_program RdFs.nil)
  rintro H ⟨name, code, _⟩ c F ⟨_, _, _, _, rfl, rfl, ⟨rfl, rfl, h1⟩, c1, _, F1, _, rfl, rfl, h2, rfl, rfl⟩
  obtain ⟨s, rfl⟩ := List.length_eq_one_iff.1 (Rp.len h2)
  exact ⟨⟨name, code⟩, F1, h1, s, rfl, h2⟩
theorem rd_targets : Rd Tryz.prog 34 (TgtsR false) := rd_target.slice und34 (by kernel_rfl) (by decide) (of_decide_eq_true (by kernel_rfl))
theorem rd_space : Rd Tryz.prog 36 (SpcR false) := by
  refine (Rd.struct (R := PrR (SousR false) (PrR (TgtsR false) unitR)) und36 (by kernel_rfl) ?_).imp ?_
  · show RdFs _ [_, _] _
    exact RdFs.cons rd_sources (RdFs.cons rd_targets RdFs.nil)
  rintro H ⟨l1, l2, _⟩ c F ⟨c1, _, F1, _, rfl, rfl, h1, c2, _, F2, _, rfl, rfl, h2, rfl, rfl⟩
  obtain ⟨s1, rfl⟩ := List.length_eq_one_iff.1 (Rp.len h1)
  obtain ⟨s2, rfl⟩ := List.length_eq_one_iff.1 (Rp.len h2)
  exact ⟨⟨l1, l2⟩, F1 ++ F2, s1, s2, F1, F2, rfl, rfl, h1, h2⟩
end Go.Proofs.YtephpieeibcihaaGreatDoor

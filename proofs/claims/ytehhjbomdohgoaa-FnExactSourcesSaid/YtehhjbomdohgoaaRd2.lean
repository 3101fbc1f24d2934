/- The readings of spaces and accounts. No condition. -/
import Derived.Test.YtehhjbomdohgoaaRd
import Derived.Test.YtehhjbomdohgoaaDat2
set_option linter.unusedSimpArgs false
set_option linter.unusedVariables false
namespace Go.Proofs.Ytehhjbomdohgoaa
open Go Go.Am
theorem rd_source : Rd Try.prog 133 SouR := by
  refine (Rd.struct (R := PrR sstrR (PrR sstrR unitR)) und133 (by kernel_rfl) ?_).imp ?_
  · show RdFs _ [_, _] _
    exact RdFs.cons (.str (by simp)) (RdFs.cons (.str (by simp)) RdFs.nil)
  rintro H ⟨name, text, _⟩ c F ⟨_, _, _, _, rfl, rfl, ⟨rfl, rfl, h1⟩, _, _, _, _, rfl, rfl, ⟨rfl, rfl, h2⟩, rfl, rfl⟩
  exact ⟨⟨name, text⟩, [], rfl, rfl, h1, h2⟩
theorem rd_sources : Rd Try.prog 22 (SousR false) := rd_source.slice und22 (by kernel_rfl) (by decide) (of_decide_eq_true (by kernel_rfl))
theorem rd_target : Rd Try.prog 136 (TgtR false) := by
  refine (Rd.struct (R := PrR sstrR (PrR (CodeR false) unitR)) und136 (by kernel_rfl) ?_).imp ?_
  · show RdFs _ [_, _] _
    exact RdFs.cons (.str (by simp)) (RdFs.cons rd_program RdFs.nil)
  rintro H ⟨name, code, _⟩ c F ⟨_, _, _, _, rfl, rfl, ⟨rfl, rfl, h1⟩, c1, _, F1, _, rfl, rfl, h2, rfl, rfl⟩
  obtain ⟨s, rfl⟩ := List.length_eq_one_iff.1 (Rp.len h2)
  exact ⟨⟨name, code⟩, F1, h1, s, rfl, h2⟩
theorem rd_targets : Rd Try.prog 23 (TgtsR false) := rd_target.slice und23 (by kernel_rfl) (by decide) (of_decide_eq_true (by kernel_rfl))
theorem rd_space : Rd Try.prog 25 (SpcR false) := by
  refine (Rd.struct (R := PrR (SousR false) (PrR (TgtsR false) unitR)) und25 (by kernel_rfl) ?_).imp ?_
  · show RdFs _ [_, _] _
    exact RdFs.cons rd_sources (RdFs.cons rd_targets RdFs.nil)
  rintro H ⟨l1, l2, _⟩ c F ⟨c1, _, F1, _, rfl, rfl, h1, c2, _, F2, _, rfl, rfl, h2, rfl, rfl⟩
  obtain ⟨s1, rfl⟩ := List.length_eq_one_iff.1 (Rp.len h1)
  obtain ⟨s2, rfl⟩ := List.length_eq_one_iff.1 (Rp.len h2)
  exact ⟨⟨l1, l2⟩, F1 ++ F2, s1, s2, F1, F2, rfl, rfl, h1, h2⟩
theorem rd_link : Rd Try.prog 176 LnkR := by
  refine (Rd.struct (R := PrR sstrR (PrR boolR (PrR boolR (PrR (intR .i64) unitR)))) und176 (by kernel_rfl) ?_).imp ?_
  · show RdFs _ [_, _, _, _] _
    exact RdFs.cons (.str (by simp)) (RdFs.cons (.bool (by simp)) (RdFs.cons (.bool (by simp)) (RdFs.cons (.int (by simp)) RdFs.nil)))
  rintro H ⟨name, ask, has, at_, _⟩ c F ⟨_, _, _, _, rfl, rfl, ⟨rfl, rfl, h1⟩, _, _, _, _, rfl, rfl, ⟨rfl, rfl, h2⟩, _, _, _, _, rfl, rfl, ⟨rfl, rfl, h3⟩, _, _, _, _, rfl, rfl, ⟨rfl, rfl, h4⟩, rfl, rfl⟩
  exact ⟨⟨name, ask, has, at_⟩, [], rfl, rfl, h1, i64_wf h4⟩
theorem rd_links : Rd Try.prog 148 (LnksR false) := rd_link.slice und148 (by kernel_rfl) (by decide) (of_decide_eq_true (by kernel_rfl))
theorem rd_deed : Rd Try.prog 150 (DeedR false) := by
  refine (Rd.struct (R := PrR sstrR (PrR (intR .i64) (PrR (intR .i64) (PrR sstrR (PrR (CodeR false) (PrR (LnksR false) unitR)))))) und150 (by kernel_rfl) ?_).imp ?_
  · show RdFs _ [_, _, _, _, _, _] _
    exact RdFs.cons (.str (by simp)) (RdFs.cons (.int (by simp)) (RdFs.cons (.int (by simp)) (RdFs.cons (.str (by simp)) (RdFs.cons rd_program (RdFs.cons rd_links RdFs.nil)))))
  rintro H ⟨name, kind, code, text, action, links, _⟩ c F ⟨_, _, _, _, rfl, rfl, ⟨rfl, rfl, h1⟩, _, _, _, _, rfl, rfl, ⟨rfl, rfl, h2⟩, _, _, _, _, rfl, rfl, ⟨rfl, rfl, h3⟩, _, _, _, _, rfl, rfl, ⟨rfl, rfl, h4⟩, c5, _, F5, _, rfl, rfl, h5, c6, _, F6, _, rfl, rfl, h6, rfl, rfl⟩
  obtain ⟨s5, rfl⟩ := List.length_eq_one_iff.1 (Rp.len h5)
  obtain ⟨s6, rfl⟩ := List.length_eq_one_iff.1 (Rp.len h6)
  exact ⟨⟨name, kind, code, text, action, links⟩, F5 ++ F6, ⟨h1, i64_wf h2, i64_wf h3, h4⟩, s5, s6, F5, F6, rfl, rfl, h5, h6⟩
theorem rd_deeds : Rd Try.prog 35 (DeedsR false) := rd_deed.slice und35 (by kernel_rfl) (by decide) (of_decide_eq_true (by kernel_rfl))
theorem rd_account : Rd Try.prog 37 (DeedsR false) := by
  refine (Rd.struct (R := PrR (DeedsR false) unitR) und37 (by kernel_rfl) ?_).imp ?_
  · show RdFs _ [_] _
    exact RdFs.cons rd_deeds RdFs.nil
  rintro H ⟨l, _⟩ c F ⟨c1, _, F1, _, rfl, rfl, h, rfl, rfl⟩
  exact ⟨l, F1, by simpa using h⟩
end Go.Proofs.Ytehhjbomdohgoaa

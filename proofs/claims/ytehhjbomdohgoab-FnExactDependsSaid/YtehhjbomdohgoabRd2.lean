/- The readings of spaces and accounts. No condition. -/
import Derived.Test.YtehhjbomdohgoabRd
import Derived.Test.YtehhjbomdohgoabDat2
set_option linter.unusedSimpArgs false
set_option linter.unusedVariables false
namespace Go.Proofs.Ytehhjbomdohgoab
open Go Go.Am
theorem rd_link : Rd Try.prog 96 LnkR := by
  refine (Rd.struct (R := PrR sstrR (PrR boolR (PrR boolR (PrR (intR .i64) unitR)))) und96 (by kernel_rfl) ?_).imp ?_
  · show RdFs _ [_, _, _, _] _
    exact RdFs.cons (.str (by simp)) (RdFs.cons (.bool (by simp)) (RdFs.cons (.bool (by simp)) (RdFs.cons (.int (by simp)) RdFs.nil)))
  rintro H ⟨name, ask, has, at_, _⟩ c F ⟨_, _, _, _, rfl, rfl, ⟨rfl, rfl, h1⟩, _, _, _, _, rfl, rfl, ⟨rfl, rfl, h2⟩, _, _, _, _, rfl, rfl, ⟨rfl, rfl, h3⟩, _, _, _, _, rfl, rfl, ⟨rfl, rfl, h4⟩, rfl, rfl⟩
  exact ⟨⟨name, ask, has, at_⟩, [], rfl, rfl, h1, i64_wf h4⟩
theorem rd_links : Rd Try.prog 62 (LnksR false) := rd_link.slice und62 (by kernel_rfl) (by decide) (of_decide_eq_true (by kernel_rfl))
theorem rd_deed : Rd Try.prog 64 (DeedR false) := by
  refine (Rd.struct (R := PrR sstrR (PrR (intR .i64) (PrR (intR .i64) (PrR sstrR (PrR (CodeR false) (PrR (LnksR false) unitR)))))) und64 (by kernel_rfl) ?_).imp ?_
  · show RdFs _ [_, _, _, _, _, _] _
    exact RdFs.cons (.str (by simp)) (RdFs.cons (.int (by simp)) (RdFs.cons (.int (by simp)) (RdFs.cons (.str (by simp)) (RdFs.cons rd_program (RdFs.cons rd_links RdFs.nil)))))
  rintro H ⟨name, kind, code, text, action, links, _⟩ c F ⟨_, _, _, _, rfl, rfl, ⟨rfl, rfl, h1⟩, _, _, _, _, rfl, rfl, ⟨rfl, rfl, h2⟩, _, _, _, _, rfl, rfl, ⟨rfl, rfl, h3⟩, _, _, _, _, rfl, rfl, ⟨rfl, rfl, h4⟩, c5, _, F5, _, rfl, rfl, h5, c6, _, F6, _, rfl, rfl, h6, rfl, rfl⟩
  obtain ⟨s5, rfl⟩ := List.length_eq_one_iff.1 (Rp.len h5)
  obtain ⟨s6, rfl⟩ := List.length_eq_one_iff.1 (Rp.len h6)
  exact ⟨⟨name, kind, code, text, action, links⟩, F5 ++ F6, ⟨h1, i64_wf h2, i64_wf h3, h4⟩, s5, s6, F5, F6, rfl, rfl, h5, h6⟩
theorem rd_deeds : Rd Try.prog 22 (DeedsR false) := rd_deed.slice und22 (by kernel_rfl) (by decide) (of_decide_eq_true (by kernel_rfl))
theorem rd_account : Rd Try.prog 24 (DeedsR false) := by
  refine (Rd.struct (R := PrR (DeedsR false) unitR) und24 (by kernel_rfl) ?_).imp ?_
  · show RdFs _ [_] _
    exact RdFs.cons rd_deeds RdFs.nil
  rintro H ⟨l, _⟩ c F ⟨c1, _, F1, _, rfl, rfl, h, rfl, rfl⟩
  exact ⟨l, F1, by simpa using h⟩
end Go.Proofs.Ytehhjbomdohgoab

/- FnExactPrintProgram: its walk. No condition. -/
import Derived.Test.YtehhjbomdohgoaaDoorLin
import Derived.Test.YtehhjbomdohgoaaDoorF2
set_option linter.unusedSimpArgs false
set_option linter.unusedVariables false
namespace Go.Proofs.YtehhjbomdohgoaaDoor
open Go Go.Am
set_option maxRecDepth 20000
variable {ng : Nat}
theorem fnExactPrintProgram_ac {own : Bool} {p : List Ins} {s : Value} {F : List Nat} {H : Heap} (h : CodeR own H p [s] F) (hW : WordsG gW H) (hP : P10 g10 H) (h0 : gW < ng) (h2 : g10 < ng) : AC Tryd.prog ng 4 [.agg #[s]] H fun v S' => v = .bool true ∧ S' = H := by
  obtain ⟨a, z, rfl⟩ := h.form
  refine .flat (AC.go [(10, .take 0 <| .take 1 <| .one 2 [0] <| .one 3 [] <| .take 4 <| .done)] Tryd.func4 rfl Tryd.ntmps4 rfl ⟨mixed, by kernel_rfl⟩ ?_)
  simp +contextual (dsimp := false)
  refine CallK.fl ⟨_, Tryd.func15, rfl, rfl⟩ (szProgram_ac (Rp.ext h (Ext.app _ _)) 1048576 (by omega)) ?_
  simp +contextual (dsimp := false)
  refine ifA_dec (fun h1 => ?_) (fun h1 => ?_)
  · simp
  · rw [szR_lt (by omega)] at h1
    have hb : p.length ≤ 1048576 := by have := wL_le Ins.w p; omega
    refine CallK.of ⟨_, Tryd.func17, rfl, rfl⟩ (toProgram_ac (Rp.ext h (Ext.app _ _)) hb) ?_
    rintro v S1 ⟨s1, F1, rfl, he1, hv1, hf1⟩
    obtain ⟨X1, rfl⟩ := he1.split
    try simp only [List.append_assoc, List.cons_append, List.nil_append] at hv1 ⊢
    simp +contextual (dsimp := false)
    refine CallK.fl ⟨_, Tryd.func16, rfl, rfl⟩ (specPrintProgram_ac hv1) ?_
    simp +contextual (dsimp := false)
    refine CallK.of ⟨_, Tryd.func17, rfl, rfl⟩ (toProgram_ac (Rp.ext h (Ext.app _ _)) hb) ?_
    rintro v S2 ⟨s2, F2, rfl, he2, hv2, hf2⟩
    obtain ⟨X2, rfl⟩ := he2.split
    try simp only [List.append_assoc, List.cons_append, List.nil_append] at hv2 ⊢
    obtain ⟨a2, z2, rfl⟩ := hv2.form
    simp +contextual (dsimp := false)
    refine CallK.fl ⟨_, Tryd.func18, rfl, rfl⟩ (implPrintProgram_ac (Rp.ext hv2 (by first | exact Ext.app _ _ | exact Ext.refl _ | (refine Ext.of ?_; simp))) (hW.ext (by first | exact Ext.app _ _ | exact Ext.refl _ | (refine Ext.of ?_; simp))) (hP.ext (by first | exact Ext.app _ _ | exact Ext.refl _ | (refine Ext.of ?_; simp))) h0 h2) ?_
    simp +contextual (dsimp := false)
    refine CallK.of ⟨_, Tryd.func17, rfl, rfl⟩ (toProgram_ac (Rp.ext h (Ext.app _ _)) hb) ?_
    rintro v S3 ⟨s3, F3, rfl, he3, hv3, hf3⟩
    obtain ⟨X3, rfl⟩ := he3.split
    try simp only [List.append_assoc, List.cons_append, List.nil_append] at hv3 ⊢
    obtain ⟨a3, z3, rfl⟩ := hv3.form
    simp +contextual (dsimp := false)
    refine CallK.fl ⟨_, Tryd.func19, rfl, rfl⟩ (eqProgram_ac (Rp.ext hv2 (by first | exact Ext.app _ _ | exact Ext.refl _ | (refine Ext.of ?_; simp))) hv3) ?_
    simp +contextual (dsimp := false)
end Go.Proofs.YtehhjbomdohgoaaDoor

/- FnExactValidProgram: its walk. No condition. -/
import Derived.Test.YtiimabmdokpmbaaF2
namespace Go.Proofs.Ytiimabmdokpmbaa
open Go Go.Am
set_option linter.unusedSimpArgs false
set_option linter.unusedVariables false
variable {ng : Nat}

theorem fnExactValidProgram_ac {own : Bool} {l : List Ins} {s : Value} {F : List Nat} {H : Heap} (hs : CodeR own H l [s] F) : AC Try.prog ng 4 [.agg #[s]] H fun v S' => v = .bool true ∧ S' = H := by
  obtain ⟨a, z, rfl⟩ := hs.form
  refine .flat (AC.go [(10, .take 0 <| .take 1 <| .one 2 [0] <| .one 3 [] <| .take 4 <| .done)] Try.func4 rfl Try.ntmps4 rfl ⟨mixed, by kernel_rfl⟩ ?_)
  simp +contextual (dsimp := false)
  refine CallK.fl ⟨_, Try.func10, rfl, rfl⟩ (szProgram_ac (Rp.ext hs (Ext.app _ _)) 1048576 (by omega)) ?_
  simp +contextual (dsimp := false)
  refine ifA_dec (fun h => ?_) (fun h => ?_)
  · simp
  · rw [szR_lt (by omega)] at h
    have hb : l.length ≤ 1048576 := by have := wS_le Ins.w l 0; simp at this; omega
    refine CallK.of ⟨_, Try.func12, rfl, rfl⟩ (toProgram_ac (Rp.ext hs (Ext.app _ _)) hb) ?_
    rintro v S1 ⟨s1, F1, rfl, he1, hv1, hf1⟩
    obtain ⟨a1, z1, rfl⟩ := hv1.form
    obtain ⟨G1, rfl⟩ := he1.split
    try simp only [List.append_assoc, List.cons_append, List.nil_append] at hv1 ⊢
    simp +contextual (dsimp := false)
    refine CallK.fl ⟨_, Try.func11, rfl, rfl⟩ (specValid_ac hv1) ?_
    simp +contextual (dsimp := false)
    refine CallK.of ⟨_, Try.func12, rfl, rfl⟩ (toProgram_ac (Rp.ext hs (Ext.app _ _)) hb) ?_
    rintro v S2 ⟨s2, F2, rfl, he2, hv2, hf2⟩
    obtain ⟨a2, z2, rfl⟩ := hv2.form
    obtain ⟨G2, rfl⟩ := he2.split
    try simp only [List.append_assoc, List.cons_append, List.nil_append] at hv2 ⊢
    simp +contextual (dsimp := false)
    refine CallK.fl ⟨_, Try.func13, rfl, rfl⟩ (validProgram_ac (Rp.ext hv2 (by first | exact Ext.app _ _ | exact Ext.refl _ | (refine Ext.of ?_; simp)))) ?_
    simp +contextual (dsimp := false)
    refine CallK.of ⟨_, Try.func12, rfl, rfl⟩ (toProgram_ac (Rp.ext hs (Ext.app _ _)) hb) ?_
    rintro v S3 ⟨s3, F3, rfl, he3, hv3, hf3⟩
    obtain ⟨a3, z3, rfl⟩ := hv3.form
    obtain ⟨G3, rfl⟩ := he3.split
    try simp only [List.append_assoc, List.cons_append, List.nil_append] at hv3 ⊢
    simp +contextual (dsimp := false)
    refine CallK.fl ⟨_, Try.func14, rfl, rfl⟩ (eqProgram_ac (Rp.ext hv2 (by first | exact Ext.app _ _ | exact Ext.refl _ | (refine Ext.of ?_; simp))) hv3) ?_
    simp +contextual (dsimp := false)
end Go.Proofs.Ytiimabmdokpmbaa

/- FnExactCheckSpace: its walk. No condition. -/
import Derived.Test.YtehhjbomdohgoaaChk
import Derived.Test.YtehhjbomdohgoaaLSpc
set_option linter.unusedSimpArgs false
set_option linter.unusedVariables false
namespace Go.Proofs.Ytehhjbomdohgoaa
open Go Go.Am
set_option maxRecDepth 20000
variable {ng : Nat}
theorem fnExactCheckSpace_ac {own : Bool} {x : Spc} {c : List Value} {F : List Nat} {H : Heap} (h : SpcR own H x c F) : AC Try.prog ng 3 [.agg c.toArray] H fun v S' => v = .bool true ∧ S' = H := by
  have h0 := h
  obtain ⟨s1, s2, G1, G2, rfl, rfl, hc1, hc2⟩ := h
  obtain ⟨a1, z1, rfl⟩ := hc1.form
  obtain ⟨a2, z2, rfl⟩ := hc2.form
  refine .flat (AC.go [(10, .take 0 <| .take 1 <| .one 2 [0] <| .one 3 [] <| .take 4 <| .done)] Try.func3 rfl Try.ntmps3 rfl ⟨mixed, by kernel_rfl⟩ ?_)
  simp +contextual (dsimp := false)
  refine CallK.fl ⟨_, Try.func10, rfl, rfl⟩ (szSpace_ac (Rp.ext h0 (Ext.app _ _)) 1048576 (by omega)) ?_
  simp +contextual (dsimp := false)
  refine ifA_dec (fun h => ?_) (fun h => ?_)
  · simp
  · rw [szR_lt (by omega)] at h
    have hb : x.w ≤ 1048576 := by omega
    refine CallK.of ⟨_, Try.func12, rfl, rfl⟩ (toSpace_ac (Rp.ext h0 (Ext.app _ _)) hb) ?_
    rintro v S1 ⟨c1, F1, rfl, he1, hv1, hf1⟩
    obtain ⟨X1, rfl⟩ := he1.split
    try simp only [List.append_assoc, List.cons_append, List.nil_append] at hv1 ⊢
    obtain ⟨u1, u2, _, _, rfl, _, _, _⟩ := id hv1
    simp +contextual (dsimp := false)
    refine CallK.fl ⟨_, Try.func11, rfl, rfl⟩ (specCheckSpace_ac hv1) ?_
    simp +contextual (dsimp := false)
    refine CallK.of ⟨_, Try.func12, rfl, rfl⟩ (toSpace_ac (Rp.ext h0 (Ext.app _ _)) hb) ?_
    rintro v S2 ⟨c2, F2, rfl, he2, hv2, hf2⟩
    obtain ⟨X2, rfl⟩ := he2.split
    try simp only [List.append_assoc, List.cons_append, List.nil_append] at hv2 ⊢
    obtain ⟨w1, w2, _, _, rfl, _, g1, g2⟩ := id hv2
    obtain ⟨_, _, rfl⟩ := g1.form
    obtain ⟨_, _, rfl⟩ := g2.form
    simp +contextual (dsimp := false)
    refine CallK.fl ⟨_, Try.func13, rfl, rfl⟩ (implCheckSpace_ac (Rp.ext hv2 (by first | exact Ext.app _ _ | exact Ext.refl _ | (refine Ext.of ?_; simp)))) ?_
    simp +contextual (dsimp := false)
    refine CallK.of ⟨_, Try.func12, rfl, rfl⟩ (toSpace_ac (Rp.ext h0 (Ext.app _ _)) hb) ?_
    rintro v S3 ⟨c3, F3, rfl, he3, hv3, hf3⟩
    obtain ⟨X3, rfl⟩ := he3.split
    try simp only [List.append_assoc, List.cons_append, List.nil_append] at hv3 ⊢
    obtain ⟨t1, t2, _, _, rfl, _, _, _⟩ := id hv3
    simp +contextual (dsimp := false)
    refine CallK.fl ⟨_, Try.func14, rfl, rfl⟩ (eqSpace_ac (Rp.ext hv2 (by first | exact Ext.app _ _ | exact Ext.refl _ | (refine Ext.of ?_; simp))) hv3) ?_
    simp +contextual (dsimp := false)
end Go.Proofs.Ytehhjbomdohgoaa

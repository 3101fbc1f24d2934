/- FnExactFollows: its walk. No condition. -/
import Derived.Test.YtephpieeibcihaaDoorFow
import Derived.Test.YtephpieeibcihaaDoorLSpc
set_option linter.unusedSimpArgs false
set_option linter.unusedVariables false
namespace Go.Proofs.YtephpieeibcihaaDoor
open Go Go.Am
set_option maxRecDepth 20000
variable {ng : Nat}
theorem fnExactFollows_ac {own : Bool} {x : List Deed} {s : Value} {F : List Nat} {H : Heap} (h : DeedsR own H x [s] F) (hP : P10 g10 H) (h2 : g10 < ng) : AC Tryd.prog ng 6 [.agg #[s]] H fun v S' => v = .bool true ∧ S' = H := by
  obtain ⟨a1, z1, rfl⟩ := h.form
  refine .flat (AC.go [(10, .take 0 <| .take 1 <| .one 2 [0] <| .one 3 [] <| .take 4 <| .done)] Tryd.func6 rfl Tryd.ntmps6 rfl ⟨mixed, by kernel_rfl⟩ ?_)
  simp +contextual (dsimp := false)
  refine CallK.fl ⟨_, Tryd.func18, rfl, rfl⟩ (szAccount_ac (Rp.ext h (Ext.app _ _)) 1048576 (by omega)) ?_
  simp +contextual (dsimp := false)
  refine ifA_dec (fun hlt => ?_) (fun hlt => ?_)
  · simp
  · rw [szR_lt (by omega)] at hlt
    have hb : wL Deed.w x ≤ 1048576 := by omega
    refine CallK.of ⟨_, Tryd.func20, rfl, rfl⟩ (toAccount_ac (Rp.ext h (Ext.app _ _)) hb) ?_
    rintro v S1 ⟨s1, F1, rfl, he1, hv1, hf1⟩
    obtain ⟨X1, rfl⟩ := he1.split
    try simp only [List.append_assoc, List.cons_append, List.nil_append] at hv1 ⊢
    simp +contextual (dsimp := false)
    refine CallK.fl ⟨_, Tryd.func23, rfl, rfl⟩ (specFollows_ac hv1) ?_
    simp +contextual (dsimp := false)
    refine CallK.of ⟨_, Tryd.func20, rfl, rfl⟩ (toAccount_ac (Rp.ext h (Ext.app _ _)) hb) ?_
    rintro v S2 ⟨s2, F2, rfl, he2, hv2, hf2⟩
    obtain ⟨X2, rfl⟩ := he2.split
    try simp only [List.append_assoc, List.cons_append, List.nil_append] at hv2 ⊢
    obtain ⟨_, _, rfl⟩ := hv2.form
    simp +contextual (dsimp := false)
    refine CallK.fl ⟨_, Tryd.func24, rfl, rfl⟩ (implFollows_ac (Rp.ext hv2 (by first | exact Ext.app _ _ | exact Ext.refl _ | (refine Ext.of ?_; simp))) (hP.ext (by first | exact Ext.app _ _ | exact Ext.refl _ | (refine Ext.of ?_; simp))) h2) ?_
    simp +contextual (dsimp := false)
    refine CallK.of ⟨_, Tryd.func20, rfl, rfl⟩ (toAccount_ac (Rp.ext h (Ext.app _ _)) hb) ?_
    rintro v S3 ⟨s3, F3, rfl, he3, hv3, hf3⟩
    obtain ⟨X3, rfl⟩ := he3.split
    try simp only [List.append_assoc, List.cons_append, List.nil_append] at hv3 ⊢
    simp +contextual (dsimp := false)
    refine CallK.fl ⟨_, Tryd.func22, rfl, rfl⟩ (eqAccount_ac (Rp.ext hv2 (by first | exact Ext.app _ _ | exact Ext.refl _ | (refine Ext.of ?_; simp))) hv3) ?_
    simp +contextual (dsimp := false)
end Go.Proofs.YtephpieeibcihaaDoor

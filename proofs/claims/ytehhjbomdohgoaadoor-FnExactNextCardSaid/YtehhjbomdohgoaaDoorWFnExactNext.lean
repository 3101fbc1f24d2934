/- FnExactNext: its walk. No condition. -/
import Derived.Test.YtehhjbomdohgoaaDoorSpX
import Derived.Test.YtehhjbomdohgoaaDoorF2
import Derived.Test.YtehhjbomdohgoaaDoorLFlat
set_option linter.unusedSimpArgs false
set_option linter.unusedVariables false
namespace Go.Proofs.YtehhjbomdohgoaaDoor
open Go Go.Am
set_option maxRecDepth 20000
variable {ng : Nat}
theorem eqTurn_ac (x y : Trn) (H : Heap) : AC Tryd.prog ng 24 [.agg x.c.toArray, .agg y.c.toArray] H fun v S' => v = .bool (decide (x = y)) ∧ S' = H := by
  refine .flat (AC.go [] Tryd.func24 rfl Tryd.ntmps24 rfl ⟨mixed, by kernel_rfl⟩ ?_)
  obtain ⟨o1, c1, t1, a1, n1, s1⟩ := x
  obtain ⟨o2, c2, t2, a2, n2, s2⟩ := y
  simp +contextual (dsimp := false) [Trn.c, bin_bneq und4]
  simp [ifA_ite]
  try grind
theorem fnExactNext_ac {own own2 : Bool} {p : List Ins} {rs : List Rpl} {s s2 : Value} {F F2 : List Nat} {H : Heap} (h : CodeR own H p [s] F) (hr : RplsR own2 H rs [s2] F2) (hP : P10 g10 H) (h2 : g10 < ng) : AC Tryd.prog ng 5 [.agg #[s], s2] H fun v S' => v = .bool true ∧ S' = H := by
  obtain ⟨a, z, rfl⟩ := h.form
  obtain ⟨ar, zr, rfl⟩ := hr.form
  refine .flat (AC.go [(14, .take 0 <| .take 1 <| .one 2 [0] <| .one 3 [] <| .take 4 <| .done)] Tryd.func5 rfl Tryd.ntmps5 rfl ⟨mixed, by kernel_rfl⟩ ?_)
  simp +contextual (dsimp := false)
  refine CallK.fl ⟨_, Tryd.func15, rfl, rfl⟩ (szProgram_ac (Rp.ext h (Ext.app _ _)) 1048576 (by omega)) ?_
  simp +contextual (dsimp := false)
  refine ifA_dec (fun h1 => ?_) (fun h1 => ?_)
  · simp
  · have h1' := h1
    rw [szR_lt (by omega)] at h1
    have hb : p.length ≤ 1048576 := by have := wL_le Ins.w p; omega
    have hsr := szR_ge (left := 1048576) (w := wL Ins.w p) (by omega)
    refine CallK.fl ⟨_, Tryd.func20, rfl, rfl⟩ (szReplyS_ac (Rp.ext hr (Ext.app _ _)) _ ⟨by omega, by omega⟩) ?_
    simp +contextual (dsimp := false)
    refine ifA_dec (fun h3 => ?_) (fun h3 => ?_)
    · simp
    · rw [hsr, szR_lt (by omega)] at h3
      have hbr : wL Rpl.w rs ≤ 1048576 := by omega
      refine CallK.of ⟨_, Tryd.func17, rfl, rfl⟩ (toProgram_ac (Rp.ext h (Ext.app _ _)) hb) ?_
      rintro v S1 ⟨s1, F1, rfl, he1, hv1, hf1⟩
      obtain ⟨X1, rfl⟩ := he1.split
      try simp only [List.append_assoc, List.cons_append, List.nil_append] at hv1 ⊢
      simp +contextual (dsimp := false)
      refine CallK.of ⟨_, Tryd.func22, rfl, rfl⟩ (toReplyS_ac (Rp.ext hr (by first | exact Ext.app _ _ | exact Ext.refl _ | (refine Ext.of ?_; simp))) hbr) ?_
      rintro v S2 ⟨F2', he2, hv2, hf2⟩
      obtain ⟨X2, rfl⟩ := he2.split
      try simp only [List.append_assoc, List.cons_append, List.nil_append] at hv2 ⊢
      simp +contextual (dsimp := false)
      obtain ⟨T, hT⟩ : ∃ T, T = next p rs := ⟨_, rfl⟩
      refine CallK.fl ⟨_, Tryd.func21, rfl, rfl⟩ (u := .agg T.c.toArray) (by rw [hT]; exact specNext_ac (Rp.ext hv1 (by first | exact Ext.app _ _ | exact Ext.refl _ | (refine Ext.of ?_; simp))) hv2) ?_
      obtain ⟨to1, tc1, tt1, ta1, tn1, ts1⟩ := T
      simp +contextual (dsimp := false) [Trn.c]
      refine CallK.of ⟨_, Tryd.func17, rfl, rfl⟩ (toProgram_ac (Rp.ext h (Ext.app _ _)) hb) ?_
      rintro v3 S3 ⟨s3, F3, rfl, he3, hv3, hf3⟩
      obtain ⟨X3, rfl⟩ := he3.split
      try simp only [List.append_assoc, List.cons_append, List.nil_append] at hv3 ⊢
      obtain ⟨a3, z3, rfl⟩ := hv3.form
      simp +contextual (dsimp := false)
      refine CallK.of ⟨_, Tryd.func22, rfl, rfl⟩ (toReplyS_ac (Rp.ext hr (by first | exact Ext.app _ _ | exact Ext.refl _ | (refine Ext.of ?_; simp))) hbr) ?_
      rintro v4 S4 ⟨F4, he4, hv4, hf4⟩
      obtain ⟨X4, rfl⟩ := he4.split
      try simp only [List.append_assoc, List.cons_append, List.nil_append] at hv4 ⊢
      simp +contextual (dsimp := false)
      refine CallK.fl ⟨_, Tryd.func23, rfl, rfl⟩ (u := .agg (Trn.c ⟨to1, tc1, tt1, ta1, tn1, ts1⟩).toArray) (by rw [hT]; exact implNext_ac (Rp.ext hv3 (by first | exact Ext.app _ _ | exact Ext.refl _ | (refine Ext.of ?_; simp))) hv4 (hP.ext (by first | exact Ext.app _ _ | exact Ext.refl _ | (refine Ext.of ?_; simp))) h2) ?_
      simp +contextual (dsimp := false) [Trn.c]
      refine CallK.fl ⟨_, Tryd.func24, rfl, rfl⟩ (eqTurn_ac ⟨to1, tc1, tt1, ta1, tn1, ts1⟩ ⟨to1, tc1, tt1, ta1, tn1, ts1⟩ _) ?_
      simp +contextual (dsimp := false)
      refine CallK.of ⟨_, Tryd.func17, rfl, rfl⟩ (toProgram_ac (Rp.ext h (Ext.app _ _)) hb) ?_
      rintro v5 S5 ⟨s5, F5, rfl, he5, hv5, hf5⟩
      obtain ⟨X5, rfl⟩ := he5.split
      try simp only [List.append_assoc, List.cons_append, List.nil_append] at hv5 ⊢
      obtain ⟨a5, z5, rfl⟩ := hv5.form
      simp +contextual (dsimp := false)
      refine CallK.fl ⟨_, Tryd.func19, rfl, rfl⟩ (eqProgram_ac (Rp.ext hv3 (by first | exact Ext.app _ _ | exact Ext.refl _ | (refine Ext.of ?_; simp))) hv5) ?_
      simp +contextual (dsimp := false)
      refine CallK.of ⟨_, Tryd.func22, rfl, rfl⟩ (toReplyS_ac (Rp.ext hr (by first | exact Ext.app _ _ | exact Ext.refl _ | (refine Ext.of ?_; simp))) hbr) ?_
      rintro v6 S6 ⟨F6, he6, hv6, hf6⟩
      obtain ⟨X6, rfl⟩ := he6.split
      try simp only [List.append_assoc, List.cons_append, List.nil_append] at hv6 ⊢
      simp +contextual (dsimp := false)
      refine CallK.fl ⟨_, Tryd.func25, rfl, rfl⟩ (eqReplyS_ac (Rp.ext hv4 (by first | exact Ext.app _ _ | exact Ext.refl _ | (refine Ext.of ?_; simp))) hv6) ?_
      simp +contextual (dsimp := false)
end Go.Proofs.YtehhjbomdohgoaaDoor

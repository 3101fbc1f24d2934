/- FnExactAudit: its walk. No condition. -/
import Derived.Test.YtephpieeibcihaaGreatDoorAdw
import Derived.Test.YtephpieeibcihaaGreatDoorLSpc
set_option linter.unusedSimpArgs false
set_option linter.unusedVariables false
namespace Go.Proofs.YtephpieeibcihaaGreatDoor
open Go Go.Am
set_option maxRecDepth 20000
variable {ng : Nat}
set_option maxHeartbeats 1000000 in
theorem fnExactAudit_ac {own own' : Bool} {x : List Deed} {s : Value} {F : List Nat} {H : Heap} (h : DeedsR own H x [s] F) {y : Spc} {c : List Value} {G : List Nat} (hy : SpcR own' H y c G) (hP : P10 g10 H) (h2 : g10 < ng) : AC Tryz.prog ng 6 [.agg #[s], .agg c.toArray] H fun v S' => v = .bool true ∧ S' = H := by
  obtain ⟨a1, z1, rfl⟩ := h.form
  have hy' := hy
  obtain ⟨_, _, _, _, rfl, _, g1, g2⟩ := id hy
  obtain ⟨ai01, zi01, rfl⟩ := g1.form
  obtain ⟨ai02, zi02, rfl⟩ := g2.form
  refine .flat (AC.go [(8, .take 0 <| .take 2 <| .one 1 [2] <| .one 3 [] <| .one 4 [] <| .take 5 <| .take 6 <| .take 7 <| .take 8 <| .take 9 <| .done), (14, .take 0 <| .take 1 <| .one 2 [0] <| .one 3 [] <| .take 4 <| .done), (16, .take 0 <| .take 1 <| .one 2 [0] <| .one 3 [] <| .take 4 <| .done)] Tryz.func6 rfl Tryz.ntmps6 rfl ⟨mixed, by kernel_rfl⟩ ?_)
  simp +contextual (dsimp := false)
  refine CallK.fl ⟨_, Tryz.func28, rfl, rfl⟩ (szAccount_ac (Rp.ext h (Ext.app _ _)) 1048576 (by omega)) ?_
  simp +contextual (dsimp := false)
  refine ifA_dec (fun hlt => ?_) (fun hlt => ?_)
  · simp
  rw [szR_lt (by omega)] at hlt
  have hb : wL Deed.w x ≤ 1048576 := by omega
  have hsr := szR_ge (left := 1048576) (w := wL Deed.w x) (by omega)
  refine CallK.fl ⟨_, Tryz.func19, rfl, rfl⟩ (szSpace_ac (Rp.ext hy' (Ext.app _ _)) _ ⟨by omega, by omega⟩) ?_
  simp +contextual (dsimp := false)
  refine ifA_dec (fun hlt2 => ?_) (fun hlt2 => ?_)
  · simp
  rw [hsr, szR_lt (by omega)] at hlt2
  have hby : y.w ≤ 1048576 := by omega
  refine CallK.of ⟨_, Tryz.func30, rfl, rfl⟩ (toAccount_ac (Rp.ext h (Ext.app _ _)) hb) ?_
  rintro v S1 ⟨s1, F1, rfl, he1, hv1, hf1⟩
  obtain ⟨X1, rfl⟩ := he1.split
  try simp only [List.append_assoc, List.cons_append, List.nil_append] at hv1 ⊢
  obtain ⟨_, _, rfl⟩ := hv1.form
  simp +contextual (dsimp := false)
  refine CallK.of ⟨_, Tryz.func21, rfl, rfl⟩ (toSpace_ac (Rp.ext hy' (by first | exact Ext.app _ _ | exact Ext.refl _ | (refine Ext.of ?_; simp))) hby) ?_
  rintro v S2 ⟨c2, F2, rfl, he2, hv2, hf2⟩
  obtain ⟨X2, rfl⟩ := he2.split
  try simp only [List.append_assoc, List.cons_append, List.nil_append] at hv2 ⊢
  obtain ⟨_, _, _, _, rfl, _, g1, g2⟩ := id hv2
  obtain ⟨a21, z21, rfl⟩ := g1.form
  obtain ⟨a22, z22, rfl⟩ := g2.form
  simp +contextual (dsimp := false)
  refine CallK.fl ⟨_, Tryz.func34, rfl, rfl⟩ (specAudit_ac (Rp.ext hv1 (by first | exact Ext.app _ _ | exact Ext.refl _ | (refine Ext.of ?_; simp))) hv2) ?_
  simp +contextual (dsimp := false)
  refine CallK.of ⟨_, Tryz.func30, rfl, rfl⟩ (toAccount_ac (Rp.ext h (by first | exact Ext.app _ _ | exact Ext.refl _ | (refine Ext.of ?_; simp))) hb) ?_
  rintro v S3 ⟨s3, F3, rfl, he3, hv3, hf3⟩
  obtain ⟨X3, rfl⟩ := he3.split
  try simp only [List.append_assoc, List.cons_append, List.nil_append] at hv3 ⊢
  obtain ⟨_, _, rfl⟩ := hv3.form
  simp +contextual (dsimp := false)
  refine CallK.of ⟨_, Tryz.func21, rfl, rfl⟩ (toSpace_ac (Rp.ext hy' (by first | exact Ext.app _ _ | exact Ext.refl _ | (refine Ext.of ?_; simp))) hby) ?_
  rintro v S4 ⟨c4, F4, rfl, he4, hv4, hf4⟩
  obtain ⟨X4, rfl⟩ := he4.split
  try simp only [List.append_assoc, List.cons_append, List.nil_append] at hv4 ⊢
  obtain ⟨_, _, _, _, rfl, _, g1, g2⟩ := id hv4
  obtain ⟨a41, z41, rfl⟩ := g1.form
  obtain ⟨a42, z42, rfl⟩ := g2.form
  simp +contextual (dsimp := false)
  refine CallK.fl ⟨_, Tryz.func35, rfl, rfl⟩ (implAudit_ac (Rp.ext hv3 (by first | exact Ext.app _ _ | exact Ext.refl _ | (refine Ext.of ?_; simp))) (Rp.ext hv4 (by first | exact Ext.app _ _ | exact Ext.refl _ | (refine Ext.of ?_; simp))) (hP.ext (by first | exact Ext.app _ _ | exact Ext.refl _ | (refine Ext.of ?_; simp))) h2) ?_
  simp +contextual (dsimp := false)
  refine CallK.of ⟨_, Tryz.func30, rfl, rfl⟩ (toAccount_ac (Rp.ext h (by first | exact Ext.app _ _ | exact Ext.refl _ | (refine Ext.of ?_; simp))) hb) ?_
  rintro v S5 ⟨s5, F5, rfl, he5, hv5, hf5⟩
  obtain ⟨X5, rfl⟩ := he5.split
  try simp only [List.append_assoc, List.cons_append, List.nil_append] at hv5 ⊢
  obtain ⟨_, _, rfl⟩ := hv5.form
  simp +contextual (dsimp := false)
  refine CallK.fl ⟨_, Tryz.func32, rfl, rfl⟩ (eqAccount_ac (Rp.ext hv3 (by first | exact Ext.app _ _ | exact Ext.refl _ | (refine Ext.of ?_; simp))) hv5) ?_
  simp +contextual (dsimp := false)
  refine CallK.of ⟨_, Tryz.func21, rfl, rfl⟩ (toSpace_ac (Rp.ext hy' (by first | exact Ext.app _ _ | exact Ext.refl _ | (refine Ext.of ?_; simp))) hby) ?_
  rintro v S6 ⟨c6, F6, rfl, he6, hv6, hf6⟩
  obtain ⟨X6, rfl⟩ := he6.split
  try simp only [List.append_assoc, List.cons_append, List.nil_append] at hv6 ⊢
  obtain ⟨_, _, _, _, rfl, _, g1, g2⟩ := id hv6
  obtain ⟨a61, z61, rfl⟩ := g1.form
  obtain ⟨a62, z62, rfl⟩ := g2.form
  simp +contextual (dsimp := false)
  refine CallK.fl ⟨_, Tryz.func24, rfl, rfl⟩ (eqSpace_ac (Rp.ext hv4 (by first | exact Ext.app _ _ | exact Ext.refl _ | (refine Ext.of ?_; simp))) hv6) ?_
  simp +contextual (dsimp := false)
end Go.Proofs.YtephpieeibcihaaGreatDoor

/- The exact laws' helpers for spaces and accounts. No condition. -/
import Derived.Test.YtehhjbomdohgoaaDoorLNest
set_option linter.unusedSimpArgs false
set_option linter.unusedVariables false
namespace Go.Proofs.YtehhjbomdohgoaaDoor
open Go Go.Am Go.Proofs
set_option maxRecDepth 20000
variable {ng : Nat}
theorem szAccount_ac {own : Bool} {l : List Deed} {s : Value} {F : List Nat} {H : Heap} (hs : DeedsR own H l [s] F) (left : Int) (hl : 0 ≤ left ∧ left ≤ 1048576) : AC Tryd.prog ng 26 [.agg #[s], int left] H fun v S' => v = int (szR left (wL Deed.w l)) ∧ S' = H := by
  obtain ⟨a, z, rfl⟩ := hs.form
  refine .flat (AC.go [] Tryd.func26 rfl Tryd.ntmps26 rfl ⟨mixed, by kernel_rfl⟩ ?_)
  simp +contextual (dsimp := false)
  refine CallK.fl ⟨_, Tryd.func59, rfl, rfl⟩ (szDeedS_ac (Rp.ext hs (Ext.app _ _)) left hl) ?_
  simp +contextual (dsimp := false)
  refine ifA_dec (fun h => ?_) (fun h => ?_)
  · rw [szR_lt hl.1] at h; rw [szR_neg h]
  · trivial
theorem toAccount_ac {own : Bool} {l : List Deed} {s : Value} {F : List Nat} {H : Heap} (hs : DeedsR own H l [s] F) (hl : wL Deed.w l ≤ 1048576) : AC Tryd.prog ng 28 [.agg #[s]] H fun v S' => ∃ s' F', v = .agg #[s'] ∧ Ext H S' ∧ DeedsR true S' l [s'] F' ∧ Fresh H.length F' := by
  obtain ⟨a, z, rfl⟩ := hs.form
  refine AC.go [] Tryd.func28 rfl Tryd.ntmps28 rfl ⟨mixed, by kernel_rfl⟩ ?_
  simp +contextual (dsimp := false)
  refine CallK.of ⟨_, Tryd.func62, rfl, rfl⟩ (toDeedS_ac (Rp.ext hs (Ext.app _ _)) hl) ?_
  rintro v S' ⟨F', he, hv, hf⟩
  obtain ⟨a', z', rfl⟩ := hv.form
  obtain ⟨G, rfl⟩ := he.split
  try simp only [List.append_assoc, List.cons_append, List.nil_append] at hv ⊢
  simp [Fresh] at hf
  simp +contextual (dsimp := false)
  exact ⟨F', Rp.fr hv fun i hi => by exact fr_drop 3 (by rfl) (hf.1 i hi), fun i hi => by have := hf.1 i hi; omega, hf.2⟩
theorem eqAccount_ac {o1 o2 : Bool} {l1 l2 : List Deed} {s1 s2 : Value} {F1 F2 : List Nat} {H : Heap} (hs1 : DeedsR o1 H l1 [s1] F1) (hs2 : DeedsR o2 H l2 [s2] F2) : AC Tryd.prog ng 30 [.agg #[s1], .agg #[s2]] H fun v S' => v = .bool (decide (l1 = l2)) ∧ S' = H := by
  obtain ⟨a1, z1, rfl⟩ := hs1.form
  obtain ⟨a2, z2, rfl⟩ := hs2.form
  refine .flat (AC.go [] Tryd.func30 rfl Tryd.ntmps30 rfl ⟨mixed, by kernel_rfl⟩ ?_)
  simp +contextual (dsimp := false)
  refine CallK.fl ⟨_, Tryd.func66, rfl, rfl⟩ (eqDeedS_ac (Rp.ext hs1 (Ext.app _ _)) (Rp.ext hs2 (Ext.app _ _))) ?_
  simp +contextual (dsimp := false)
  simp [ifA_ite]
end Go.Proofs.YtehhjbomdohgoaaDoor

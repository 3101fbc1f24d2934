/- The exact laws' helpers for spaces and accounts. No condition. -/
import Derived.Test.YtehhjbomdohgoabLNest
set_option linter.unusedSimpArgs false
set_option linter.unusedVariables false
namespace Go.Proofs.Ytehhjbomdohgoab
open Go Go.Am Go.Proofs
set_option maxRecDepth 20000
variable {ng : Nat}
theorem szAccount_ac {own : Bool} {l : List Deed} {s : Value} {F : List Nat} {H : Heap} (hs : DeedsR own H l [s] F) (left : Int) (hl : 0 ≤ left ∧ left ≤ 1048576) : AC Try.prog ng 5 [.agg #[s], int left] H fun v S' => v = int (szR left (wL Deed.w l)) ∧ S' = H := by
  obtain ⟨a, z, rfl⟩ := hs.form
  refine .flat (AC.go [] Try.func5 rfl Try.ntmps5 rfl ⟨mixed, by kernel_rfl⟩ ?_)
  simp +contextual (dsimp := false)
  refine CallK.fl ⟨_, Try.func16, rfl, rfl⟩ (szDeedS_ac (Rp.ext hs (Ext.app _ _)) left hl) ?_
  simp +contextual (dsimp := false)
  refine ifA_dec (fun h => ?_) (fun h => ?_)
  · rw [szR_lt hl.1] at h; rw [szR_neg h]
  · trivial
theorem toAccount_ac {own : Bool} {l : List Deed} {s : Value} {F : List Nat} {H : Heap} (hs : DeedsR own H l [s] F) (hl : wL Deed.w l ≤ 1048576) : AC Try.prog ng 7 [.agg #[s]] H fun v S' => ∃ s' F', v = .agg #[s'] ∧ Ext H S' ∧ DeedsR true S' l [s'] F' ∧ Fresh H.length F' := by
  obtain ⟨a, z, rfl⟩ := hs.form
  refine AC.go [] Try.func7 rfl Try.ntmps7 rfl ⟨mixed, by kernel_rfl⟩ ?_
  simp +contextual (dsimp := false)
  refine CallK.of ⟨_, Try.func19, rfl, rfl⟩ (toDeedS_ac (Rp.ext hs (Ext.app _ _)) hl) ?_
  rintro v S' ⟨F', he, hv, hf⟩
  obtain ⟨a', z', rfl⟩ := hv.form
  obtain ⟨G, rfl⟩ := he.split
  try simp only [List.append_assoc, List.cons_append, List.nil_append] at hv ⊢
  simp [Fresh] at hf
  simp +contextual (dsimp := false)
  exact ⟨F', Rp.fr hv fun i hi => by exact fr_drop 3 (by rfl) (hf.1 i hi), fun i hi => by have := hf.1 i hi; omega, hf.2⟩
theorem eqAccount_ac {o1 o2 : Bool} {l1 l2 : List Deed} {s1 s2 : Value} {F1 F2 : List Nat} {H : Heap} (hs1 : DeedsR o1 H l1 [s1] F1) (hs2 : DeedsR o2 H l2 [s2] F2) : AC Try.prog ng 10 [.agg #[s1], .agg #[s2]] H fun v S' => v = .bool (decide (l1 = l2)) ∧ S' = H := by
  obtain ⟨a1, z1, rfl⟩ := hs1.form
  obtain ⟨a2, z2, rfl⟩ := hs2.form
  refine .flat (AC.go [] Try.func10 rfl Try.ntmps10 rfl ⟨mixed, by kernel_rfl⟩ ?_)
  simp +contextual (dsimp := false)
  refine CallK.fl ⟨_, Try.func22, rfl, rfl⟩ (eqDeedS_ac (Rp.ext hs1 (Ext.app _ _)) (Rp.ext hs2 (Ext.app _ _))) ?_
  simp +contextual (dsimp := false)
  simp [ifA_ite]
theorem markAccount_ac {l : List Deed} {s : Value} {F : List Nat} {H : Heap} (hs : DeedsR true H l [s] F) (hnd : F.Nodup) (k : Nat) {e : Int} (hek : e = k) (hk : k + sumN Deed.m l ≤ 1000000000) :
    AC Try.prog ng 11 [.agg #[s], int e] H fun v S' => v = int ((k + sumN Deed.m l : Nat) : Int) ∧ DeedsR true S' (mkL Deed.mk' Deed.m k l) [s] F ∧ H.length ≤ S'.length ∧ ∀ j, j < H.length → j ∉ F → S'[j]? = H[j]? := by
  subst hek
  obtain ⟨a, z, rfl⟩ := hs.form
  refine AC.go [] Try.func11 rfl Try.ntmps11 rfl ⟨mixed, by kernel_rfl⟩ ?_
  simp +contextual (dsimp := false)
  refine CallK.of ⟨_, Try.func23, rfl, rfl⟩ (markDeedS_ac (Rp.ext hs (Ext.app _ _)) hnd k rfl hk) ?_
  rintro v S' ⟨rfl, q1, q2, q3⟩
  simp +contextual (dsimp := false)
  refine ⟨q1, by simp at q2; omega, fun j hj hn => by rw [q3 j hn, get_ext hj, List.getElem?_eq_getElem hj]⟩
end Go.Proofs.Ytehhjbomdohgoab

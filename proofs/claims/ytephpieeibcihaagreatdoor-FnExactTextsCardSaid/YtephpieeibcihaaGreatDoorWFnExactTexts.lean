/- FnExactTexts: its walk. No condition. -/
import Derived.Test.YtephpieeibcihaaGreatDoorTxt
import Derived.Test.YtephpieeibcihaaGreatDoorStr
import Derived.Test.YtephpieeibcihaaGreatDoorLSpc
import Derived.Test.YtephpieeibcihaaGreatDoorLAcc
set_option linter.unusedSimpArgs false
set_option linter.unusedVariables false
namespace Go.Proofs.YtephpieeibcihaaGreatDoor
open Go Go.Am
set_option maxRecDepth 20000
variable {ng : Nat}
set_option maxHeartbeats 2000000 in
theorem fnExactTexts_ac {own0 : Bool} {H : Heap} {x0 : List (List Deed)} {s0 : Value} {F0 : List Nat} (h0 : AccsR own0 H x0 [s0] F0)  :
    AC Tryz.prog ng 3 [s0] H fun v S' => v = .bool true ∧ S' = H := by
  have h0' := h0
  obtain ⟨ai01, zi01, rfl⟩ := h0.form
  refine .flat (AC.go [] Tryz.func3 rfl Tryz.ntmps3 rfl ⟨mixed, by kernel_rfl⟩ ?_)
  simp +contextual (dsimp := false)
  refine CallK.fl ⟨_, Tryz.func10, rfl, rfl⟩ (szAccountS_ac (Rp.ext h0' (by first | exact Ext.app _ _ | exact Ext.refl _ | (refine Ext.of ?_; simp))) (1048576) (by omega)) ?_
  simp +contextual (dsimp := false)
  refine ifA_dec (fun h => ?_) (fun h => ?_)
  · simp
  rw [szR_lt (by omega)] at h
  have hb0 : wL accW x0 ≤ 1048576 := by omega
  have mw0 : sumN accM x0 ≤ 100000000 := by have := Accs.m_le x0; omega
  have mwg : ((textsL x0)).length ≤ 100000000 := by have := textsL_len x0; omega
  refine CallK.of ⟨_, Tryz.func12, rfl, rfl⟩ (toAccountS_ac (Rp.ext h0' (by first | exact Ext.app _ _ | exact Ext.refl _ | (refine Ext.of ?_; simp))) hb0) ?_
  rintro v S1 ⟨Fu0, heu0, hvu0, hfu0⟩
  obtain ⟨X1, rfl⟩ := heu0.split
  try simp only [List.append_assoc, List.cons_append, List.nil_append] at hvu0 ⊢
  obtain ⟨au01, zu01, rfl⟩ := hvu0.form
  simp +contextual (dsimp := false)
  refine CallK.of ⟨_, Tryz.func11, rfl, rfl⟩ (specTexts_ac (Rp.ext hvu0 (by first | exact Ext.app _ _ | exact Ext.refl _ | (refine Ext.of ?_; simp)))) ?_
  rintro v S2 ⟨Fw, hew, hvw, hfw⟩
  obtain ⟨X2, rfl⟩ := hew.split
  try simp only [List.append_assoc, List.cons_append, List.nil_append] at hvw ⊢
  obtain ⟨aw1, zw1, rfl⟩ := hvw.form
  simp +contextual (dsimp := false)
  refine CallK.of ⟨_, Tryz.func12, rfl, rfl⟩ (toAccountS_ac (Rp.ext h0' (by first | exact Ext.app _ _ | exact Ext.refl _ | (refine Ext.of ?_; simp))) hb0) ?_
  rintro v S3 ⟨Fx0, hex0, hvx0, hfx0⟩
  obtain ⟨X3, rfl⟩ := hex0.split
  try simp only [List.append_assoc, List.cons_append, List.nil_append] at hvx0 ⊢
  obtain ⟨ax01, zx01, rfl⟩ := hvx0.form
  simp +contextual (dsimp := false)
  refine CallK.of ⟨_, Tryz.func13, rfl, rfl⟩ (implTexts_ac (Rp.ext hvx0 (by first | exact Ext.app _ _ | exact Ext.refl _ | (refine Ext.of ?_; simp)))) ?_
  rintro v S4 ⟨Fg, heg, hvg, hfg⟩
  obtain ⟨X4, rfl⟩ := heg.split
  try simp only [List.append_assoc, List.cons_append, List.nil_append] at hvg ⊢
  obtain ⟨ag1, zg1, rfl⟩ := hvg.form
  simp +contextual (dsimp := false)
  refine CallK.fl ⟨_, Tryz.func14, rfl, rfl⟩ (eqStringS_ac (Rp.ext hvg (by first | exact Ext.app _ _ | exact Ext.refl _ | (refine Ext.of ?_; simp))) (Rp.ext hvw (by first | exact Ext.app _ _ | exact Ext.refl _ | (refine Ext.of ?_; simp)))) ?_
  simp +contextual (dsimp := false)
  refine CallK.of ⟨_, Tryz.func12, rfl, rfl⟩ (toAccountS_ac (Rp.ext h0' (by first | exact Ext.app _ _ | exact Ext.refl _ | (refine Ext.of ?_; simp))) hb0) ?_
  rintro v S5 ⟨Fy0, hey0, hvy0, hfy0⟩
  obtain ⟨X5, rfl⟩ := hey0.split
  try simp only [List.append_assoc, List.cons_append, List.nil_append] at hvy0 ⊢
  obtain ⟨ay01, zy01, rfl⟩ := hvy0.form
  simp +contextual (dsimp := false)
  refine CallK.fl ⟨_, Tryz.func15, rfl, rfl⟩ (eqAccountS_ac (Rp.ext hvx0 (by first | exact Ext.app _ _ | exact Ext.refl _ | (refine Ext.of ?_; simp))) hvy0) ?_
  simp +contextual (dsimp := false)
  refine CallK.gen fun K hK => ?_
  have hKH : ∀ j, j < H.length → K[j]? = H[j]? := fun j hj => by rw [hK]; exact get_ext hj
  have kr0 := Rp.ext h0' (show Ext H K by rw [hK]; first | exact Ext.app _ _ | exact Ext.refl _ | (refine Ext.of ?_; simp))
  have krw := Rp.ext hvw (H' := K) (by rw [hK]; first | exact Ext.app _ _ | exact Ext.refl _ | (refine Ext.of ?_; simp))
  have krg := Rp.ext hvg (H' := K) (by rw [hK]; first | exact Ext.app _ _ | exact Ext.refl _ | (refine Ext.of ?_; simp))
  have krx0 := Rp.ext hvx0 (H' := K) (by rw [hK]; first | exact Ext.app _ _ | exact Ext.refl _ | (refine Ext.of ?_; simp))
  have hlw := Rp.lt hvw
  have hlg := Rp.lt hvg
  have hlx0 := Rp.lt hvx0
  have hkl := congrArg List.length hK
  simp only [List.length_append, List.length_cons, List.length_nil, Fresh] at hkl hlw hlg hlx0 hfw hfg hfx0
  have dgw : ∀ j ∈ Fg, j ∉ Fw := fun j h1 h2 => by have a := hfg.1 _ h1; have b := hlg _ h1; have c := hfw.1 _ h2; have d := hlw _ h2; omega
  have dx0w : ∀ j ∈ Fx0, j ∉ Fw := fun j h1 h2 => by have a := hfx0.1 _ h1; have b := hlx0 _ h1; have c := hfw.1 _ h2; have d := hlw _ h2; omega
  have dx0g : ∀ j ∈ Fx0, j ∉ Fg := fun j h1 h2 => by have a := hfx0.1 _ h1; have b := hlx0 _ h1; have c := hfg.1 _ h2; have d := hlg _ h2; omega
  have ox0_0 : ∀ j, j < H.length → j ∉ Fx0 := fun j hj hm => by have a := hfx0.1 _ hm; omega
  have og_0 : ∀ j, j < H.length → j ∉ Fg := fun j hj hm => by have a := hfg.1 _ hm; omega
  clear hK
  refine CallK.of ⟨_, Tryz.func16, rfl, rfl⟩ (markAccountS_ac krx0 hfx0.2 (1) (by rfl) (by have := mw0; omega)) ?_
  rintro v M0 ⟨rfl, qM0, lM0, eM0'⟩
  have hleM0 : K.length ≤ M0.length := Nat.le_of_eq lM0.symm
  have eM0 : ∀ j, j < K.length → j ∉ Fx0 → M0[j]? = K[j]? := fun j _ h => eM0' j h
  have kr0M0 := Rp.fr (H' := M0) kr0 fun j hj => eM0 j (Rp.lt kr0 j hj) (ox0_0 j (Rp.lt h0' j hj))
  have krwM0 := Rp.fr (H' := M0) krw fun j hj => eM0 j (Rp.lt krw j hj) fun h => dx0w j h hj
  have krgM0 := Rp.fr (H' := M0) krg fun j hj => eM0 j (Rp.lt krg j hj) fun h => dx0g j h hj
  have hkHM0 : ∀ j, j < H.length → M0[j]? = H[j]? := fun j hj => (eM0 j (by have := hkl; omega) (ox0_0 j hj)).trans (hKH j hj)
  have hklM0 : K.length ≤ M0.length := by omega
  simp +contextual (dsimp := false) []
  try refine ifA_dec (fun h => by omega) (fun _ => ?_)
  refine CallK.fl ⟨_, Tryz.func14, rfl, rfl⟩ (eqStringS_ac krgM0 krwM0) ?_
  simp +contextual (dsimp := false) []
  refine CallK.of ⟨_, Tryz.func17, rfl, rfl⟩ (markStringS_ac krgM0 hfg.2 (1) (by rfl) (by have := mwg; omega)) ?_
  rintro v N ⟨rfl, qN, lN, eN'⟩
  have hleN : M0.length ≤ N.length := Nat.le_of_eq lN.symm
  have eN : ∀ j, j < M0.length → j ∉ Fg → N[j]? = M0[j]? := fun j _ h => eN' j h
  have kr0N := Rp.fr (H' := N) kr0M0 fun j hj => eN j (Rp.lt kr0M0 j hj) (og_0 j (Rp.lt h0' j hj))
  have krwN := Rp.fr (H' := N) krwM0 fun j hj => eN j (Rp.lt krwM0 j hj) fun h => dgw j h hj
  have hkHN : ∀ j, j < H.length → N[j]? = H[j]? := fun j hj => (eN j (by have := hkl; omega) (og_0 j hj)).trans (hkHM0 j hj)
  have hklN : K.length ≤ N.length := by omega
  simp +contextual (dsimp := false) []
  refine CallK.fl ⟨_, Tryz.func18, rfl, rfl⟩ (heldStringS_ac (k := 1) qN rfl (by have := mwg; omega)) ?_
  simp +contextual (dsimp := false) []
  try refine ifA_dec (fun h => by omega) (fun _ => ?_)
  refine CallK.of ⟨_, Tryz.func12, rfl, rfl⟩ (toAccountS_ac kr0N hb0) ?_
  rintro v S' ⟨Fr0, her0, hvr0, hfr0⟩
  obtain ⟨Y0, rfl⟩ := her0.split
  try simp only [List.append_assoc, List.cons_append, List.nil_append] at hvr0 ⊢
  obtain ⟨ar01, zr01, rfl⟩ := hvr0.form
  simp +contextual (dsimp := false) []
  refine CallK.of ⟨_, Tryz.func13, rfl, rfl⟩ (implTexts_ac (Rp.ext hvr0 (by first | exact Ext.app _ _ | exact Ext.refl _ | (refine Ext.of ?_; simp)))) ?_
  rintro v S' ⟨Fh, heh, hvh, hfh⟩
  obtain ⟨Z, rfl⟩ := heh.split
  try simp only [List.append_assoc, List.cons_append, List.nil_append] at hvh ⊢
  obtain ⟨ah1, zh1, rfl⟩ := hvh.form
  simp +contextual (dsimp := false) []
  refine CallK.fl ⟨_, Tryz.func14, rfl, rfl⟩ (eqStringS_ac (Rp.ext hvh (by first | exact Ext.app _ _ | exact Ext.refl _ | (refine Ext.of ?_; simp))) (Rp.ext krwN (by first | exact Ext.app _ _ | exact Ext.refl _ | (refine Ext.of ?_; simp)))) ?_
  simp +contextual (dsimp := false) []
  try exact fun j hj => (get_ext (by have := hkl; omega)).trans (hkHN j hj)
end Go.Proofs.YtephpieeibcihaaGreatDoor

/- FnExactStale: its walk. No condition. -/
import Derived.Test.YtephpieeibcihaaGreatDoorStl
import Derived.Test.YtephpieeibcihaaGreatDoorStr
import Derived.Test.YtephpieeibcihaaGreatDoorLSpc
import Derived.Test.YtephpieeibcihaaGreatDoorLAcc
set_option linter.unusedSimpArgs false
set_option linter.unusedVariables false
namespace Go.Proofs.YtephpieeibcihaaGreatDoor
open Go Go.Am
set_option maxRecDepth 20000
variable {ng : Nat}
set_option maxHeartbeats 2000000 in
theorem fnExactStale_ac {own0 : Bool} {own1 : Bool} {H : Heap} {x0 : List (List Deed)} {s0 : Value} {F0 : List Nat} (h0 : AccsR own0 H x0 [s0] F0) {x1 : Spc} {c1 : List Value} {F1 : List Nat} (h1 : SpcR own1 H x1 c1 F1) (hP : P10 g10 H) (h2 : g10 < ng) :
    AC Tryz.prog ng 9 [s0, .agg c1.toArray] H fun v S' => v = .bool true ∧ S' = H := by
  have h0' := h0
  have h1' := h1
  obtain ⟨ai01, zi01, rfl⟩ := h0.form
  obtain ⟨_, _, _, _, rfl, _, g1, g2⟩ := id h1
  obtain ⟨ai11, zi11, rfl⟩ := g1.form
  obtain ⟨ai12, zi12, rfl⟩ := g2.form
  refine .flat (AC.go [(8, .take 0 <| .take 2 <| .one 1 [2] <| .one 3 [] <| .one 4 [] <| .take 5 <| .done), (16, .take 0 <| .take 1 <| .one 2 [0] <| .one 3 [] <| .take 4 <| .done), (31, .take 0 <| .take 2 <| .one 1 [2] <| .one 3 [] <| .one 4 [] <| .take 5 <| .done)] Tryz.func9 rfl Tryz.ntmps9 rfl ⟨mixed, by kernel_rfl⟩ ?_)
  simp +contextual (dsimp := false)
  refine CallK.fl ⟨_, Tryz.func10, rfl, rfl⟩ (szAccountS_ac (Rp.ext h0' (by first | exact Ext.app _ _ | exact Ext.refl _ | (refine Ext.of ?_; simp))) (1048576) (by omega)) ?_
  simp +contextual (dsimp := false)
  refine ifA_dec (fun h => ?_) (fun h => ?_)
  · simp
  rw [szR_lt (by omega)] at h
  rw [szR_ge (by omega)]
  refine CallK.fl ⟨_, Tryz.func19, rfl, rfl⟩ (szSpace_ac (Rp.ext h1' (by first | exact Ext.app _ _ | exact Ext.refl _ | (refine Ext.of ?_; simp))) (1048576 - (wL accW x0 : Nat)) (by omega)) ?_
  simp +contextual (dsimp := false)
  refine ifA_dec (fun h => ?_) (fun h => ?_)
  · simp
  rw [szR_lt (by omega)] at h
  have hb0 : wL accW x0 ≤ 1048576 := by omega
  have hb1 : x1.w ≤ 1048576 := by omega
  have mw0 : sumN accM x0 ≤ 100000000 := by have := Accs.m_le x0; omega
  have mw1 : x1.m ≤ 100000000 := by have := Spc.m_le x1; omega
  have mwg : ((staleL x0 x1)).length ≤ 100000000 := by have := staleL_len x0 x1; omega
  refine CallK.of ⟨_, Tryz.func12, rfl, rfl⟩ (toAccountS_ac (Rp.ext h0' (by first | exact Ext.app _ _ | exact Ext.refl _ | (refine Ext.of ?_; simp))) hb0) ?_
  rintro v S1 ⟨Fu0, heu0, hvu0, hfu0⟩
  obtain ⟨X1, rfl⟩ := heu0.split
  try simp only [List.append_assoc, List.cons_append, List.nil_append] at hvu0 ⊢
  obtain ⟨au01, zu01, rfl⟩ := hvu0.form
  simp +contextual (dsimp := false)
  refine CallK.of ⟨_, Tryz.func21, rfl, rfl⟩ (toSpace_ac (Rp.ext h1' (by first | exact Ext.app _ _ | exact Ext.refl _ | (refine Ext.of ?_; simp))) hb1) ?_
  rintro v S2 ⟨cu1, Fu1, rfl, heu1, hvu1, hfu1⟩
  obtain ⟨X2, rfl⟩ := heu1.split
  try simp only [List.append_assoc, List.cons_append, List.nil_append] at hvu1 ⊢
  obtain ⟨_, _, _, _, rfl, _, g1, g2⟩ := id hvu1
  obtain ⟨au11, zu11, rfl⟩ := g1.form
  obtain ⟨au12, zu12, rfl⟩ := g2.form
  simp +contextual (dsimp := false)
  refine CallK.of ⟨_, Tryz.func41, rfl, rfl⟩ (specStale_ac (Rp.ext hvu0 (by first | exact Ext.app _ _ | exact Ext.refl _ | (refine Ext.of ?_; simp))) (Rp.ext hvu1 (by first | exact Ext.app _ _ | exact Ext.refl _ | (refine Ext.of ?_; simp)))) ?_
  rintro v S3 ⟨Fw, hew, hvw, hfw⟩
  obtain ⟨X3, rfl⟩ := hew.split
  try simp only [List.append_assoc, List.cons_append, List.nil_append] at hvw ⊢
  obtain ⟨aw1, zw1, rfl⟩ := hvw.form
  simp +contextual (dsimp := false)
  refine CallK.of ⟨_, Tryz.func12, rfl, rfl⟩ (toAccountS_ac (Rp.ext h0' (by first | exact Ext.app _ _ | exact Ext.refl _ | (refine Ext.of ?_; simp))) hb0) ?_
  rintro v S4 ⟨Fx0, hex0, hvx0, hfx0⟩
  obtain ⟨X4, rfl⟩ := hex0.split
  try simp only [List.append_assoc, List.cons_append, List.nil_append] at hvx0 ⊢
  obtain ⟨ax01, zx01, rfl⟩ := hvx0.form
  simp +contextual (dsimp := false)
  refine CallK.of ⟨_, Tryz.func21, rfl, rfl⟩ (toSpace_ac (Rp.ext h1' (by first | exact Ext.app _ _ | exact Ext.refl _ | (refine Ext.of ?_; simp))) hb1) ?_
  rintro v S5 ⟨cx1, Fx1, rfl, hex1, hvx1, hfx1⟩
  obtain ⟨X5, rfl⟩ := hex1.split
  try simp only [List.append_assoc, List.cons_append, List.nil_append] at hvx1 ⊢
  obtain ⟨_, _, _, _, rfl, _, g1, g2⟩ := id hvx1
  obtain ⟨ax11, zx11, rfl⟩ := g1.form
  obtain ⟨ax12, zx12, rfl⟩ := g2.form
  simp +contextual (dsimp := false)
  refine CallK.of ⟨_, Tryz.func42, rfl, rfl⟩ (implStale_ac (Rp.ext hvx0 (by first | exact Ext.app _ _ | exact Ext.refl _ | (refine Ext.of ?_; simp))) (Rp.ext hvx1 (by first | exact Ext.app _ _ | exact Ext.refl _ | (refine Ext.of ?_; simp))) (hP.ext (by first | exact Ext.app _ _ | exact Ext.refl _ | (refine Ext.of ?_; simp))) h2) ?_
  rintro v S6 ⟨Fg, heg, hvg, hfg⟩
  obtain ⟨X6, rfl⟩ := heg.split
  try simp only [List.append_assoc, List.cons_append, List.nil_append] at hvg ⊢
  obtain ⟨ag1, zg1, rfl⟩ := hvg.form
  simp +contextual (dsimp := false)
  refine CallK.fl ⟨_, Tryz.func43, rfl, rfl⟩ (eqIntS_ac (Rp.ext hvg (by first | exact Ext.app _ _ | exact Ext.refl _ | (refine Ext.of ?_; simp))) (Rp.ext hvw (by first | exact Ext.app _ _ | exact Ext.refl _ | (refine Ext.of ?_; simp)))) ?_
  simp +contextual (dsimp := false)
  refine CallK.of ⟨_, Tryz.func12, rfl, rfl⟩ (toAccountS_ac (Rp.ext h0' (by first | exact Ext.app _ _ | exact Ext.refl _ | (refine Ext.of ?_; simp))) hb0) ?_
  rintro v S7 ⟨Fy0, hey0, hvy0, hfy0⟩
  obtain ⟨X7, rfl⟩ := hey0.split
  try simp only [List.append_assoc, List.cons_append, List.nil_append] at hvy0 ⊢
  obtain ⟨ay01, zy01, rfl⟩ := hvy0.form
  simp +contextual (dsimp := false)
  refine CallK.fl ⟨_, Tryz.func15, rfl, rfl⟩ (eqAccountS_ac (Rp.ext hvx0 (by first | exact Ext.app _ _ | exact Ext.refl _ | (refine Ext.of ?_; simp))) hvy0) ?_
  simp +contextual (dsimp := false)
  refine CallK.of ⟨_, Tryz.func21, rfl, rfl⟩ (toSpace_ac (Rp.ext h1' (by first | exact Ext.app _ _ | exact Ext.refl _ | (refine Ext.of ?_; simp))) hb1) ?_
  rintro v S8 ⟨cy1, Fy1, rfl, hey1, hvy1, hfy1⟩
  obtain ⟨X8, rfl⟩ := hey1.split
  try simp only [List.append_assoc, List.cons_append, List.nil_append] at hvy1 ⊢
  obtain ⟨_, _, _, _, rfl, _, g1, g2⟩ := id hvy1
  obtain ⟨ay11, zy11, rfl⟩ := g1.form
  obtain ⟨ay12, zy12, rfl⟩ := g2.form
  simp +contextual (dsimp := false)
  refine CallK.fl ⟨_, Tryz.func24, rfl, rfl⟩ (eqSpace_ac (Rp.ext hvx1 (by first | exact Ext.app _ _ | exact Ext.refl _ | (refine Ext.of ?_; simp))) hvy1) ?_
  simp +contextual (dsimp := false)
  refine CallK.gen fun K hK => ?_
  have hKH : ∀ j, j < H.length → K[j]? = H[j]? := fun j hj => by rw [hK]; exact get_ext hj
  have kb1 : K[H.length]? = some (⟨.cells #[.slice ai11 (x1).sources.length zi11, .slice ai12 (x1).targets.length zi12] 36 (0, 0), true, true⟩ : Blk) := by rw [hK]; first | (simp only [get_at, get_at0, List.getElem?_cons_succ, List.getElem?_cons_zero]; done) | simp
  have kx1 : K[H.length + (X1.length + (X2.length + (X3.length + (X4.length + X5.length))) + 1)]? = some (⟨.cells #[.slice ax11 (x1).sources.length zx11, .slice ax12 (x1).targets.length zx12] 44 (0, 0), true, true⟩ : Blk) := by rw [hK]; first | (simp only [get_at, get_at0, List.getElem?_cons_succ, List.getElem?_cons_zero]; done) | simp
  have kr0 := Rp.ext h0' (show Ext H K by rw [hK]; first | exact Ext.app _ _ | exact Ext.refl _ | (refine Ext.of ?_; simp))
  have kr1 := Rp.ext h1' (show Ext H K by rw [hK]; first | exact Ext.app _ _ | exact Ext.refl _ | (refine Ext.of ?_; simp))
  have krw := Rp.ext hvw (H' := K) (by rw [hK]; first | exact Ext.app _ _ | exact Ext.refl _ | (refine Ext.of ?_; simp))
  have krg := Rp.ext hvg (H' := K) (by rw [hK]; first | exact Ext.app _ _ | exact Ext.refl _ | (refine Ext.of ?_; simp))
  have krx0 := Rp.ext hvx0 (H' := K) (by rw [hK]; first | exact Ext.app _ _ | exact Ext.refl _ | (refine Ext.of ?_; simp))
  have krx1 := Rp.ext hvx1 (H' := K) (by rw [hK]; first | exact Ext.app _ _ | exact Ext.refl _ | (refine Ext.of ?_; simp))
  have hlw := Rp.lt hvw
  have hlg := Rp.lt hvg
  have hlx0 := Rp.lt hvx0
  have hlx1 := Rp.lt hvx1
  have hkl := congrArg List.length hK
  simp only [List.length_append, List.length_cons, List.length_nil, Fresh] at hkl hlw hlg hlx0 hlx1 hfw hfg hfx0 hfx1
  have nx0_kb1 : H.length ∉ Fx0 := fun hm => by have a := hfx0.1 _ hm; have b := hlx0 _ hm; omega
  have nx0_kx1 : H.length + (X1.length + (X2.length + (X3.length + (X4.length + X5.length))) + 1) ∉ Fx0 := fun hm => by have a := hfx0.1 _ hm; have b := hlx0 _ hm; omega
  have nx1_kb1 : H.length ∉ Fx1 := fun hm => by have a := hfx1.1 _ hm; have b := hlx1 _ hm; omega
  have nx1_kx1 : H.length + (X1.length + (X2.length + (X3.length + (X4.length + X5.length))) + 1) ∉ Fx1 := fun hm => by have a := hfx1.1 _ hm; have b := hlx1 _ hm; omega
  have ng_kb1 : H.length ∉ Fg := fun hm => by have a := hfg.1 _ hm; have b := hlg _ hm; omega
  have ng_kx1 : H.length + (X1.length + (X2.length + (X3.length + (X4.length + X5.length))) + 1) ∉ Fg := fun hm => by have a := hfg.1 _ hm; have b := hlg _ hm; omega
  have dgw : ∀ j ∈ Fg, j ∉ Fw := fun j h1 h2 => by have a := hfg.1 _ h1; have b := hlg _ h1; have c := hfw.1 _ h2; have d := hlw _ h2; omega
  have dx0w : ∀ j ∈ Fx0, j ∉ Fw := fun j h1 h2 => by have a := hfx0.1 _ h1; have b := hlx0 _ h1; have c := hfw.1 _ h2; have d := hlw _ h2; omega
  have dx1w : ∀ j ∈ Fx1, j ∉ Fw := fun j h1 h2 => by have a := hfx1.1 _ h1; have b := hlx1 _ h1; have c := hfw.1 _ h2; have d := hlw _ h2; omega
  have dx0g : ∀ j ∈ Fx0, j ∉ Fg := fun j h1 h2 => by have a := hfx0.1 _ h1; have b := hlx0 _ h1; have c := hfg.1 _ h2; have d := hlg _ h2; omega
  have dx1g : ∀ j ∈ Fx1, j ∉ Fg := fun j h1 h2 => by have a := hfx1.1 _ h1; have b := hlx1 _ h1; have c := hfg.1 _ h2; have d := hlg _ h2; omega
  have dx0x1 : ∀ j ∈ Fx0, j ∉ Fx1 := fun j h1 h2 => by have a := hfx0.1 _ h1; have b := hlx0 _ h1; have c := hfx1.1 _ h2; have d := hlx1 _ h2; omega
  have ox0_0 : ∀ j, j < H.length → j ∉ Fx0 := fun j hj hm => by have a := hfx0.1 _ hm; omega
  have ox1_0 : ∀ j, j < H.length → j ∉ Fx1 := fun j hj hm => by have a := hfx1.1 _ hm; omega
  have og_0 : ∀ j, j < H.length → j ∉ Fg := fun j hj hm => by have a := hfg.1 _ hm; omega
  clear hK
  refine CallK.of ⟨_, Tryz.func16, rfl, rfl⟩ (markAccountS_ac krx0 hfx0.2 (1) (by rfl) (by have := mw0; omega)) ?_
  rintro v M0 ⟨rfl, qM0, lM0, eM0'⟩
  have hleM0 : K.length ≤ M0.length := Nat.le_of_eq lM0.symm
  have eM0 : ∀ j, j < K.length → j ∉ Fx0 → M0[j]? = K[j]? := fun j _ h => eM0' j h
  have kb1M0 : M0[H.length]? = some (⟨.cells #[.slice ai11 (x1).sources.length zi11, .slice ai12 (x1).targets.length zi12] 36 (0, 0), true, true⟩ : Blk) := (eM0 _ (List.getElem?_eq_some_iff.1 kb1).1 nx0_kb1).trans kb1
  have kx1M0 : M0[H.length + (X1.length + (X2.length + (X3.length + (X4.length + X5.length))) + 1)]? = some (⟨.cells #[.slice ax11 (x1).sources.length zx11, .slice ax12 (x1).targets.length zx12] 44 (0, 0), true, true⟩ : Blk) := (eM0 _ (List.getElem?_eq_some_iff.1 kx1).1 nx0_kx1).trans kx1
  have kr0M0 := Rp.fr (H' := M0) kr0 fun j hj => eM0 j (Rp.lt kr0 j hj) (ox0_0 j (Rp.lt h0' j hj))
  have kr1M0 := Rp.fr (H' := M0) kr1 fun j hj => eM0 j (Rp.lt kr1 j hj) (ox0_0 j (Rp.lt h1' j hj))
  have krwM0 := Rp.fr (H' := M0) krw fun j hj => eM0 j (Rp.lt krw j hj) fun h => dx0w j h hj
  have krgM0 := Rp.fr (H' := M0) krg fun j hj => eM0 j (Rp.lt krg j hj) fun h => dx0g j h hj
  have krx1M0 := Rp.fr (H' := M0) krx1 fun j' hj => eM0 j' (Rp.lt krx1 j' hj) fun h => dx0x1 j' h hj
  have hkHM0 : ∀ j, j < H.length → M0[j]? = H[j]? := fun j hj => (eM0 j (by have := hkl; omega) (ox0_0 j hj)).trans (hKH j hj)
  have hklM0 : K.length ≤ M0.length := by omega
  simp +contextual (dsimp := false) [kb1M0, kx1M0]
  refine CallK.of ⟨_, Tryz.func25, rfl, rfl⟩ (markSpace_ac krx1M0 hfx1.2 (1 + sumN accM x0) (by omega) (by have := mw1; omega)) ?_
  rintro v M1 ⟨rfl, qM1, lM1, eM1'⟩
  have hleM1 : M0.length ≤ M1.length := lM1
  have eM1 : ∀ j, j < M0.length → j ∉ Fx1 → M1[j]? = M0[j]? := eM1'
  have kb1M1 : M1[H.length]? = some (⟨.cells #[.slice ai11 (x1).sources.length zi11, .slice ai12 (x1).targets.length zi12] 36 (0, 0), true, true⟩ : Blk) := (eM1 _ (List.getElem?_eq_some_iff.1 kb1M0).1 nx1_kb1).trans kb1M0
  have kx1M1 : M1[H.length + (X1.length + (X2.length + (X3.length + (X4.length + X5.length))) + 1)]? = some (⟨.cells #[.slice ax11 (x1).sources.length zx11, .slice ax12 (x1).targets.length zx12] 44 (0, 0), true, true⟩ : Blk) := (eM1 _ (List.getElem?_eq_some_iff.1 kx1M0).1 nx1_kx1).trans kx1M0
  have kr0M1 := Rp.fr (H' := M1) kr0M0 fun j hj => eM1 j (Rp.lt kr0M0 j hj) (ox1_0 j (Rp.lt h0' j hj))
  have kr1M1 := Rp.fr (H' := M1) kr1M0 fun j hj => eM1 j (Rp.lt kr1M0 j hj) (ox1_0 j (Rp.lt h1' j hj))
  have krwM1 := Rp.fr (H' := M1) krwM0 fun j hj => eM1 j (Rp.lt krwM0 j hj) fun h => dx1w j h hj
  have krgM1 := Rp.fr (H' := M1) krgM0 fun j hj => eM1 j (Rp.lt krgM0 j hj) fun h => dx1g j h hj
  have hkHM1 : ∀ j, j < H.length → M1[j]? = H[j]? := fun j hj => (eM1 j (by have := hkl; omega) (ox1_0 j hj)).trans (hkHM0 j hj)
  have hklM1 : K.length ≤ M1.length := by omega
  simp +contextual (dsimp := false) [kb1M1, kx1M1]
  try refine ifA_dec (fun h => by omega) (fun _ => ?_)
  refine CallK.fl ⟨_, Tryz.func43, rfl, rfl⟩ (eqIntS_ac krgM1 krwM1) ?_
  simp +contextual (dsimp := false) [kb1M1, kx1M1]
  refine CallK.of ⟨_, Tryz.func44, rfl, rfl⟩ (markIntS_ac krgM1 hfg.2 (1) (by rfl) (by have := mwg; omega)) ?_
  rintro v N ⟨rfl, qN, lN, eN'⟩
  have hleN : M1.length ≤ N.length := Nat.le_of_eq lN.symm
  have eN : ∀ j, j < M1.length → j ∉ Fg → N[j]? = M1[j]? := fun j _ h => eN' j h
  have kb1N : N[H.length]? = some (⟨.cells #[.slice ai11 (x1).sources.length zi11, .slice ai12 (x1).targets.length zi12] 36 (0, 0), true, true⟩ : Blk) := (eN _ (List.getElem?_eq_some_iff.1 kb1M1).1 ng_kb1).trans kb1M1
  have kx1N : N[H.length + (X1.length + (X2.length + (X3.length + (X4.length + X5.length))) + 1)]? = some (⟨.cells #[.slice ax11 (x1).sources.length zx11, .slice ax12 (x1).targets.length zx12] 44 (0, 0), true, true⟩ : Blk) := (eN _ (List.getElem?_eq_some_iff.1 kx1M1).1 ng_kx1).trans kx1M1
  have kr0N := Rp.fr (H' := N) kr0M1 fun j hj => eN j (Rp.lt kr0M1 j hj) (og_0 j (Rp.lt h0' j hj))
  have kr1N := Rp.fr (H' := N) kr1M1 fun j hj => eN j (Rp.lt kr1M1 j hj) (og_0 j (Rp.lt h1' j hj))
  have krwN := Rp.fr (H' := N) krwM1 fun j hj => eN j (Rp.lt krwM1 j hj) fun h => dgw j h hj
  have hkHN : ∀ j, j < H.length → N[j]? = H[j]? := fun j hj => (eN j (by have := hkl; omega) (og_0 j hj)).trans (hkHM1 j hj)
  have hklN : K.length ≤ N.length := by omega
  simp +contextual (dsimp := false) [kb1N, kx1N]
  refine CallK.fl ⟨_, Tryz.func45, rfl, rfl⟩ (heldIntS_ac (k := 1) qN rfl (by have := mwg; omega)) ?_
  simp +contextual (dsimp := false) [kb1N, kx1N]
  try refine ifA_dec (fun h => by omega) (fun _ => ?_)
  refine CallK.of ⟨_, Tryz.func12, rfl, rfl⟩ (toAccountS_ac kr0N hb0) ?_
  rintro v S' ⟨Fr0, her0, hvr0, hfr0⟩
  obtain ⟨Y0, rfl⟩ := her0.split
  try simp only [List.append_assoc, List.cons_append, List.nil_append] at hvr0 ⊢
  obtain ⟨ar01, zr01, rfl⟩ := hvr0.form
  have kb1E : ∀ T : Heap, (N ++ T)[H.length]? = some (⟨.cells #[.slice ai11 (x1).sources.length zi11, .slice ai12 (x1).targets.length zi12] 36 (0, 0), true, true⟩ : Blk) := fun T => (get_ext (List.getElem?_eq_some_iff.1 kb1N).1).trans kb1N
  have kx1E : ∀ T : Heap, (N ++ T)[H.length + (X1.length + (X2.length + (X3.length + (X4.length + X5.length))) + 1)]? = some (⟨.cells #[.slice ax11 (x1).sources.length zx11, .slice ax12 (x1).targets.length zx12] 44 (0, 0), true, true⟩ : Blk) := fun T => (get_ext (List.getElem?_eq_some_iff.1 kx1N).1).trans kx1N
  simp +contextual (dsimp := false) [kb1E, kx1E]
  refine CallK.of ⟨_, Tryz.func21, rfl, rfl⟩ (toSpace_ac (Rp.ext kr1N (by first | exact Ext.app _ _ | exact Ext.refl _ | (refine Ext.of ?_; simp))) hb1) ?_
  rintro v S' ⟨cr1, Fr1, rfl, her1, hvr1, hfr1⟩
  obtain ⟨Y1, rfl⟩ := her1.split
  try simp only [List.append_assoc, List.cons_append, List.nil_append] at hvr1 ⊢
  obtain ⟨_, _, _, _, rfl, _, g1, g2⟩ := id hvr1
  obtain ⟨ar11, zr11, rfl⟩ := g1.form
  obtain ⟨ar12, zr12, rfl⟩ := g2.form
  simp +contextual (dsimp := false) [kb1E, kx1E]
  refine CallK.of ⟨_, Tryz.func42, rfl, rfl⟩ (implStale_ac (Rp.ext hvr0 (by first | exact Ext.app _ _ | exact Ext.refl _ | (refine Ext.of ?_; simp))) (Rp.ext hvr1 (by first | exact Ext.app _ _ | exact Ext.refl _ | (refine Ext.of ?_; simp))) (hP.ext (fun j hj => (get_ext (by have := hkl; omega)).trans (hkHN j hj))) h2) ?_
  rintro v S' ⟨Fh, heh, hvh, hfh⟩
  obtain ⟨Z, rfl⟩ := heh.split
  try simp only [List.append_assoc, List.cons_append, List.nil_append] at hvh ⊢
  obtain ⟨ah1, zh1, rfl⟩ := hvh.form
  simp +contextual (dsimp := false) [kb1E, kx1E]
  refine CallK.fl ⟨_, Tryz.func43, rfl, rfl⟩ (eqIntS_ac (Rp.ext hvh (by first | exact Ext.app _ _ | exact Ext.refl _ | (refine Ext.of ?_; simp))) (Rp.ext krwN (by first | exact Ext.app _ _ | exact Ext.refl _ | (refine Ext.of ?_; simp)))) ?_
  simp +contextual (dsimp := false) [kb1E, kx1E]
  try exact fun j hj => (get_ext (by have := hkl; omega)).trans (hkHN j hj)
end Go.Proofs.YtephpieeibcihaaGreatDoor

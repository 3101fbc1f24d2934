/- FnExactWhy: its walk. No condition. -/
import Derived.Test.YtbigpkfdeaigeaaGreatDoorWyi
import Derived.Test.YtbigpkfdeaigeaaGreatDoorStr
import Derived.Test.YtbigpkfdeaigeaaGreatDoorLSpc
import Derived.Test.YtbigpkfdeaigeaaGreatDoorWhu
set_option linter.unusedSimpArgs false
set_option linter.unusedVariables false
namespace Go.Proofs.YtbigpkfdeaigeaaGreatDoor
open Go Go.Am
set_option maxRecDepth 20000
variable {ng : Nat}
set_option maxHeartbeats 2000000 in
theorem fnExactWhy_ac {own0 : Bool} {own1 : Bool} {H : Heap} {x0 : List Deed} {s0 : Value} {F0 : List Nat} (h0 : DeedsR own0 H x0 [s0] F0) {x1 : List Deed} {s1 : Value} {F1 : List Nat} (h1 : DeedsR own1 H x1 [s1] F1) (hW : WordsG gW H) (hP : P10 g10 H) (hg0 : gW < ng) (hg2 : g10 < ng) :
    AC Tryz.prog ng 3 [.agg #[s0], .agg #[s1]] H fun v S' => v = .bool true ∧ S' = H := by
  have h0' := h0
  have h1' := h1
  obtain ⟨ai01, zi01, rfl⟩ := h0.form
  obtain ⟨ai11, zi11, rfl⟩ := h1.form
  refine .flat (AC.go [(8, .take 0 <| .take 2 <| .one 1 [2] <| .one 3 [] <| .one 4 [] <| .take 5 <| .done), (14, .take 0 <| .take 1 <| .one 2 [0] <| .one 3 [] <| .take 4 <| .done), (16, .take 0 <| .take 1 <| .one 2 [0] <| .one 3 [] <| .take 4 <| .done), (31, .take 0 <| .take 2 <| .one 1 [2] <| .one 3 [] <| .one 4 [] <| .take 5 <| .done)] Tryz.func3 rfl Tryz.ntmps3 rfl ⟨mixed, by kernel_rfl⟩ ?_)
  simp +contextual (dsimp := false)
  refine CallK.fl ⟨_, Tryz.func8, rfl, rfl⟩ (szAccount_ac (Rp.ext h0' (by first | exact Ext.app _ _ | exact Ext.refl _ | (refine Ext.of ?_; simp))) (1048576) (by omega)) ?_
  simp +contextual (dsimp := false)
  refine ifA_dec (fun h => ?_) (fun h => ?_)
  · simp
  rw [szR_lt (by omega)] at h
  rw [szR_ge (by omega)]
  refine CallK.fl ⟨_, Tryz.func8, rfl, rfl⟩ (szAccount_ac (Rp.ext h1' (by first | exact Ext.app _ _ | exact Ext.refl _ | (refine Ext.of ?_; simp))) (1048576 - (wL Deed.w x0 : Nat)) (by omega)) ?_
  simp +contextual (dsimp := false)
  refine ifA_dec (fun h => ?_) (fun h => ?_)
  · simp
  rw [szR_lt (by omega)] at h
  have hb0 : wL Deed.w x0 ≤ 1048576 := by omega
  have hb1 : wL Deed.w x1 ≤ 1048576 := by omega
  have mw0 : sumN Deed.m x0 ≤ 100000000 := by have := Deed.m_le x0; omega
  have mw1 : sumN Deed.m x1 ≤ 100000000 := by have := Deed.m_le x1; omega
  have mwg : ((whyOf x0 x1)).length ≤ 100000000 := by have := whyOf_len x0 x1; omega
  refine CallK.of ⟨_, Tryz.func10, rfl, rfl⟩ (toAccount_ac (Rp.ext h0' (by first | exact Ext.app _ _ | exact Ext.refl _ | (refine Ext.of ?_; simp))) hb0) ?_
  rintro v S1 ⟨cu0, Fu0, rfl, heu0, hvu0, hfu0⟩
  obtain ⟨X1, rfl⟩ := heu0.split
  try simp only [List.append_assoc, List.cons_append, List.nil_append] at hvu0 ⊢
  obtain ⟨au01, zu01, rfl⟩ := hvu0.form
  simp +contextual (dsimp := false)
  refine CallK.of ⟨_, Tryz.func10, rfl, rfl⟩ (toAccount_ac (Rp.ext h1' (by first | exact Ext.app _ _ | exact Ext.refl _ | (refine Ext.of ?_; simp))) hb1) ?_
  rintro v S2 ⟨cu1, Fu1, rfl, heu1, hvu1, hfu1⟩
  obtain ⟨X2, rfl⟩ := heu1.split
  try simp only [List.append_assoc, List.cons_append, List.nil_append] at hvu1 ⊢
  obtain ⟨au11, zu11, rfl⟩ := hvu1.form
  simp +contextual (dsimp := false)
  refine CallK.of ⟨_, Tryz.func9, rfl, rfl⟩ (specWhy_ac (Rp.ext hvu0 (by first | exact Ext.app _ _ | exact Ext.refl _ | (refine Ext.of ?_; simp))) (Rp.ext hvu1 (by first | exact Ext.app _ _ | exact Ext.refl _ | (refine Ext.of ?_; simp)))) ?_
  rintro v S3 ⟨Fw, hew, hvw, hfw⟩
  obtain ⟨X3, rfl⟩ := hew.split
  try simp only [List.append_assoc, List.cons_append, List.nil_append] at hvw ⊢
  obtain ⟨aw1, zw1, rfl⟩ := hvw.form
  simp +contextual (dsimp := false)
  refine CallK.of ⟨_, Tryz.func10, rfl, rfl⟩ (toAccount_ac (Rp.ext h0' (by first | exact Ext.app _ _ | exact Ext.refl _ | (refine Ext.of ?_; simp))) hb0) ?_
  rintro v S4 ⟨cx0, Fx0, rfl, hex0, hvx0, hfx0⟩
  obtain ⟨X4, rfl⟩ := hex0.split
  try simp only [List.append_assoc, List.cons_append, List.nil_append] at hvx0 ⊢
  obtain ⟨ax01, zx01, rfl⟩ := hvx0.form
  simp +contextual (dsimp := false)
  refine CallK.of ⟨_, Tryz.func10, rfl, rfl⟩ (toAccount_ac (Rp.ext h1' (by first | exact Ext.app _ _ | exact Ext.refl _ | (refine Ext.of ?_; simp))) hb1) ?_
  rintro v S5 ⟨cx1, Fx1, rfl, hex1, hvx1, hfx1⟩
  obtain ⟨X5, rfl⟩ := hex1.split
  try simp only [List.append_assoc, List.cons_append, List.nil_append] at hvx1 ⊢
  obtain ⟨ax11, zx11, rfl⟩ := hvx1.form
  simp +contextual (dsimp := false)
  refine CallK.of ⟨_, Tryz.func11, rfl, rfl⟩ (implWhy_ac (Rp.ext hvx0 (by first | exact Ext.app _ _ | exact Ext.refl _ | (refine Ext.of ?_; simp))) (Rp.ext hvx1 (by first | exact Ext.app _ _ | exact Ext.refl _ | (refine Ext.of ?_; simp))) (hW.ext (by first | exact Ext.app _ _ | exact Ext.refl _ | (refine Ext.of ?_; simp))) (hP.ext (by first | exact Ext.app _ _ | exact Ext.refl _ | (refine Ext.of ?_; simp))) hg0 hg2) ?_
  rintro v S6 ⟨Fg, heg, hvg, hfg⟩
  obtain ⟨X6, rfl⟩ := heg.split
  try simp only [List.append_assoc, List.cons_append, List.nil_append] at hvg ⊢
  obtain ⟨ag1, zg1, rfl⟩ := hvg.form
  simp +contextual (dsimp := false)
  refine CallK.fl ⟨_, Tryz.func12, rfl, rfl⟩ (eqStringS_ac (Rp.ext hvg (by first | exact Ext.app _ _ | exact Ext.refl _ | (refine Ext.of ?_; simp))) (Rp.ext hvw (by first | exact Ext.app _ _ | exact Ext.refl _ | (refine Ext.of ?_; simp)))) ?_
  simp +contextual (dsimp := false)
  refine CallK.of ⟨_, Tryz.func10, rfl, rfl⟩ (toAccount_ac (Rp.ext h0' (by first | exact Ext.app _ _ | exact Ext.refl _ | (refine Ext.of ?_; simp))) hb0) ?_
  rintro v S7 ⟨cy0, Fy0, rfl, hey0, hvy0, hfy0⟩
  obtain ⟨X7, rfl⟩ := hey0.split
  try simp only [List.append_assoc, List.cons_append, List.nil_append] at hvy0 ⊢
  obtain ⟨ay01, zy01, rfl⟩ := hvy0.form
  simp +contextual (dsimp := false)
  refine CallK.fl ⟨_, Tryz.func13, rfl, rfl⟩ (eqAccount_ac (Rp.ext hvx0 (by first | exact Ext.app _ _ | exact Ext.refl _ | (refine Ext.of ?_; simp))) hvy0) ?_
  simp +contextual (dsimp := false)
  refine CallK.of ⟨_, Tryz.func10, rfl, rfl⟩ (toAccount_ac (Rp.ext h1' (by first | exact Ext.app _ _ | exact Ext.refl _ | (refine Ext.of ?_; simp))) hb1) ?_
  rintro v S8 ⟨cy1, Fy1, rfl, hey1, hvy1, hfy1⟩
  obtain ⟨X8, rfl⟩ := hey1.split
  try simp only [List.append_assoc, List.cons_append, List.nil_append] at hvy1 ⊢
  obtain ⟨ay11, zy11, rfl⟩ := hvy1.form
  simp +contextual (dsimp := false)
  refine CallK.fl ⟨_, Tryz.func13, rfl, rfl⟩ (eqAccount_ac (Rp.ext hvx1 (by first | exact Ext.app _ _ | exact Ext.refl _ | (refine Ext.of ?_; simp))) hvy1) ?_
  simp +contextual (dsimp := false)
  refine CallK.gen fun K hK => ?_
  have hKH : ∀ j, j < H.length → K[j]? = H[j]? := fun j hj => by rw [hK]; exact get_ext hj
  have kb0 : K[H.length]? = some (⟨.cells #[.slice ai01 (x0).length zi01] 24 (0, 0), true, true⟩ : Blk) := by rw [hK]; first | (simp only [get_at, get_at0, List.getElem?_cons_succ, List.getElem?_cons_zero]; done) | simp
  have kb1 : K[H.length + (1)]? = some (⟨.cells #[.slice ai11 (x1).length zi11] 24 (0, 0), true, true⟩ : Blk) := by rw [hK]; first | (simp only [get_at, get_at0, List.getElem?_cons_succ, List.getElem?_cons_zero]; done) | simp
  have kx0 : K[H.length + (X1.length + (X2.length + (X3.length + X4.length)) + 1 + 1)]? = some (⟨.cells #[.slice ax01 (x0).length zx01] 30 (0, 0), true, true⟩ : Blk) := by rw [hK]; first | (simp only [get_at, get_at0, List.getElem?_cons_succ, List.getElem?_cons_zero]; done) | simp
  have kx1 : K[H.length + (X1.length + (X2.length + (X3.length + (X4.length + (X5.length + 1)))) + 1 + 1)]? = some (⟨.cells #[.slice ax11 (x1).length zx11] 30 (0, 0), true, true⟩ : Blk) := by rw [hK]; first | (simp only [get_at, get_at0, List.getElem?_cons_succ, List.getElem?_cons_zero]; done) | simp
  have kr0 := Rp.ext h0' (show Ext H K by rw [hK]; first | exact Ext.app _ _ | exact Ext.refl _ | (refine Ext.of ?_; simp))
  have kr1 := Rp.ext h1' (show Ext H K by rw [hK]; first | exact Ext.app _ _ | exact Ext.refl _ | (refine Ext.of ?_; simp))
  have krw := Rp.ext hvw (H' := K) (by rw [hK]; first | exact Ext.app _ _ | exact Ext.refl _ | (refine Ext.of ?_; simp))
  have krg := Rp.ext hvg (H' := K) (by rw [hK]; first | exact Ext.app _ _ | exact Ext.refl _ | (refine Ext.of ?_; simp))
  have krx0 := Rp.ext hvx0 (H' := K) (by rw [hK]; first | exact Ext.app _ _ | exact Ext.refl _ | (refine Ext.of ?_; simp))
  have krx1 := Rp.ext hvx1 (H' := K) (by rw [hK]; first | exact Ext.app _ _ | exact Ext.refl _ | (refine Ext.of ?_; simp))
  have hlw := Rp.lt hvw
  have hlg := Rp.lt hvg
  have hlx0 := Rp.lt hvx0
  have hlx1 := Rp.lt hvx1
  have hkl := congrArg List.length hK
  simp only [List.length_append, List.length_cons, List.length_nil, Fresh] at hkl hlw hlg hlx0 hlx1 hfw hfg hfx0 hfx1
  have nx0_kb0 : H.length ∉ Fx0 := fun hm => by have a := hfx0.1 _ hm; have b := hlx0 _ hm; omega
  have nx0_kb1 : H.length + (1) ∉ Fx0 := fun hm => by have a := hfx0.1 _ hm; have b := hlx0 _ hm; omega
  have nx0_kx0 : H.length + (X1.length + (X2.length + (X3.length + X4.length)) + 1 + 1) ∉ Fx0 := fun hm => by have a := hfx0.1 _ hm; have b := hlx0 _ hm; omega
  have nx0_kx1 : H.length + (X1.length + (X2.length + (X3.length + (X4.length + (X5.length + 1)))) + 1 + 1) ∉ Fx0 := fun hm => by have a := hfx0.1 _ hm; have b := hlx0 _ hm; omega
  have nx1_kb0 : H.length ∉ Fx1 := fun hm => by have a := hfx1.1 _ hm; have b := hlx1 _ hm; omega
  have nx1_kb1 : H.length + (1) ∉ Fx1 := fun hm => by have a := hfx1.1 _ hm; have b := hlx1 _ hm; omega
  have nx1_kx0 : H.length + (X1.length + (X2.length + (X3.length + X4.length)) + 1 + 1) ∉ Fx1 := fun hm => by have a := hfx1.1 _ hm; have b := hlx1 _ hm; omega
  have nx1_kx1 : H.length + (X1.length + (X2.length + (X3.length + (X4.length + (X5.length + 1)))) + 1 + 1) ∉ Fx1 := fun hm => by have a := hfx1.1 _ hm; have b := hlx1 _ hm; omega
  have ng_kb0 : H.length ∉ Fg := fun hm => by have a := hfg.1 _ hm; have b := hlg _ hm; omega
  have ng_kb1 : H.length + (1) ∉ Fg := fun hm => by have a := hfg.1 _ hm; have b := hlg _ hm; omega
  have ng_kx0 : H.length + (X1.length + (X2.length + (X3.length + X4.length)) + 1 + 1) ∉ Fg := fun hm => by have a := hfg.1 _ hm; have b := hlg _ hm; omega
  have ng_kx1 : H.length + (X1.length + (X2.length + (X3.length + (X4.length + (X5.length + 1)))) + 1 + 1) ∉ Fg := fun hm => by have a := hfg.1 _ hm; have b := hlg _ hm; omega
  have dgw : ∀ j ∈ Fg, j ∉ Fw := fun j h1 h2 => by have a := hfg.1 _ h1; have b := hlg _ h1; have c := hfw.1 _ h2; have d := hlw _ h2; omega
  have dx0w : ∀ j ∈ Fx0, j ∉ Fw := fun j h1 h2 => by have a := hfx0.1 _ h1; have b := hlx0 _ h1; have c := hfw.1 _ h2; have d := hlw _ h2; omega
  have dx1w : ∀ j ∈ Fx1, j ∉ Fw := fun j h1 h2 => by have a := hfx1.1 _ h1; have b := hlx1 _ h1; have c := hfw.1 _ h2; have d := hlw _ h2; omega
  have dx0g : ∀ j ∈ Fx0, j ∉ Fg := fun j h1 h2 => by have a := hfx0.1 _ h1; have b := hlx0 _ h1; have c := hfg.1 _ h2; have d := hlg _ h2; omega
  have dx1g : ∀ j ∈ Fx1, j ∉ Fg := fun j h1 h2 => by have a := hfx1.1 _ h1; have b := hlx1 _ h1; have c := hfg.1 _ h2; have d := hlg _ h2; omega
  have dx0x1 : ∀ j ∈ Fx0, j ∉ Fx1 := fun j h1 h2 => by have a := hfx0.1 _ h1; have b := hlx0 _ h1; have c := hfx1.1 _ h2; have d := hlx1 _ h2; omega
  have ox0_0 : ∀ j, j < H.length → j ∉ Fx0 := fun j hj hm => by have a := hfx0.1 _ hm; omega
  have ox1_0 : ∀ j, j < H.length → j ∉ Fx1 := fun j hj hm => by have a := hfx1.1 _ hm; omega
  have og_0 : ∀ j, j < H.length → j ∉ Fg := fun j hj hm => by have a := hfg.1 _ hm; omega
  clear hK
  refine CallK.of ⟨_, Tryz.func14, rfl, rfl⟩ (markAccount_ac krx0 hfx0.2 (1) (by rfl) (by have := mw0; omega)) ?_
  rintro v M0 ⟨rfl, qM0, lM0, eM0'⟩
  have hleM0 : K.length ≤ M0.length := lM0
  have eM0 : ∀ j, j < K.length → j ∉ Fx0 → M0[j]? = K[j]? := eM0'
  have kb0M0 : M0[H.length]? = some (⟨.cells #[.slice ai01 (x0).length zi01] 24 (0, 0), true, true⟩ : Blk) := (eM0 _ (List.getElem?_eq_some_iff.1 kb0).1 nx0_kb0).trans kb0
  have kb1M0 : M0[H.length + (1)]? = some (⟨.cells #[.slice ai11 (x1).length zi11] 24 (0, 0), true, true⟩ : Blk) := (eM0 _ (List.getElem?_eq_some_iff.1 kb1).1 nx0_kb1).trans kb1
  have kx0M0 : M0[H.length + (X1.length + (X2.length + (X3.length + X4.length)) + 1 + 1)]? = some (⟨.cells #[.slice ax01 (x0).length zx01] 30 (0, 0), true, true⟩ : Blk) := (eM0 _ (List.getElem?_eq_some_iff.1 kx0).1 nx0_kx0).trans kx0
  have kx1M0 : M0[H.length + (X1.length + (X2.length + (X3.length + (X4.length + (X5.length + 1)))) + 1 + 1)]? = some (⟨.cells #[.slice ax11 (x1).length zx11] 30 (0, 0), true, true⟩ : Blk) := (eM0 _ (List.getElem?_eq_some_iff.1 kx1).1 nx0_kx1).trans kx1
  have kr0M0 := Rp.fr (H' := M0) kr0 fun j hj => eM0 j (Rp.lt kr0 j hj) (ox0_0 j (Rp.lt h0' j hj))
  have kr1M0 := Rp.fr (H' := M0) kr1 fun j hj => eM0 j (Rp.lt kr1 j hj) (ox0_0 j (Rp.lt h1' j hj))
  have krwM0 := Rp.fr (H' := M0) krw fun j hj => eM0 j (Rp.lt krw j hj) fun h => dx0w j h hj
  have krgM0 := Rp.fr (H' := M0) krg fun j hj => eM0 j (Rp.lt krg j hj) fun h => dx0g j h hj
  have krx1M0 := Rp.fr (H' := M0) krx1 fun j' hj => eM0 j' (Rp.lt krx1 j' hj) fun h => dx0x1 j' h hj
  have hkHM0 : ∀ j, j < H.length → M0[j]? = H[j]? := fun j hj => (eM0 j (by have := hkl; omega) (ox0_0 j hj)).trans (hKH j hj)
  have hklM0 : K.length ≤ M0.length := by omega
  simp +contextual (dsimp := false) [kb0M0, kb1M0, kx0M0, kx1M0]
  refine CallK.of ⟨_, Tryz.func14, rfl, rfl⟩ (markAccount_ac krx1M0 hfx1.2 (1 + sumN Deed.m x0) (by omega) (by have := mw1; omega)) ?_
  rintro v M1 ⟨rfl, qM1, lM1, eM1'⟩
  have hleM1 : M0.length ≤ M1.length := lM1
  have eM1 : ∀ j, j < M0.length → j ∉ Fx1 → M1[j]? = M0[j]? := eM1'
  have kb0M1 : M1[H.length]? = some (⟨.cells #[.slice ai01 (x0).length zi01] 24 (0, 0), true, true⟩ : Blk) := (eM1 _ (List.getElem?_eq_some_iff.1 kb0M0).1 nx1_kb0).trans kb0M0
  have kb1M1 : M1[H.length + (1)]? = some (⟨.cells #[.slice ai11 (x1).length zi11] 24 (0, 0), true, true⟩ : Blk) := (eM1 _ (List.getElem?_eq_some_iff.1 kb1M0).1 nx1_kb1).trans kb1M0
  have kx0M1 : M1[H.length + (X1.length + (X2.length + (X3.length + X4.length)) + 1 + 1)]? = some (⟨.cells #[.slice ax01 (x0).length zx01] 30 (0, 0), true, true⟩ : Blk) := (eM1 _ (List.getElem?_eq_some_iff.1 kx0M0).1 nx1_kx0).trans kx0M0
  have kx1M1 : M1[H.length + (X1.length + (X2.length + (X3.length + (X4.length + (X5.length + 1)))) + 1 + 1)]? = some (⟨.cells #[.slice ax11 (x1).length zx11] 30 (0, 0), true, true⟩ : Blk) := (eM1 _ (List.getElem?_eq_some_iff.1 kx1M0).1 nx1_kx1).trans kx1M0
  have kr0M1 := Rp.fr (H' := M1) kr0M0 fun j hj => eM1 j (Rp.lt kr0M0 j hj) (ox1_0 j (Rp.lt h0' j hj))
  have kr1M1 := Rp.fr (H' := M1) kr1M0 fun j hj => eM1 j (Rp.lt kr1M0 j hj) (ox1_0 j (Rp.lt h1' j hj))
  have krwM1 := Rp.fr (H' := M1) krwM0 fun j hj => eM1 j (Rp.lt krwM0 j hj) fun h => dx1w j h hj
  have krgM1 := Rp.fr (H' := M1) krgM0 fun j hj => eM1 j (Rp.lt krgM0 j hj) fun h => dx1g j h hj
  have hkHM1 : ∀ j, j < H.length → M1[j]? = H[j]? := fun j hj => (eM1 j (by have := hkl; omega) (ox1_0 j hj)).trans (hkHM0 j hj)
  have hklM1 : K.length ≤ M1.length := by omega
  simp +contextual (dsimp := false) [kb0M1, kb1M1, kx0M1, kx1M1]
  try refine ifA_dec (fun h => by omega) (fun _ => ?_)
  refine CallK.fl ⟨_, Tryz.func12, rfl, rfl⟩ (eqStringS_ac krgM1 krwM1) ?_
  simp +contextual (dsimp := false) [kb0M1, kb1M1, kx0M1, kx1M1]
  refine CallK.of ⟨_, Tryz.func15, rfl, rfl⟩ (markStringS_ac krgM1 hfg.2 (1) (by rfl) (by have := mwg; omega)) ?_
  rintro v N ⟨rfl, qN, lN, eN'⟩
  have hleN : M1.length ≤ N.length := Nat.le_of_eq lN.symm
  have eN : ∀ j, j < M1.length → j ∉ Fg → N[j]? = M1[j]? := fun j _ h => eN' j h
  have kb0N : N[H.length]? = some (⟨.cells #[.slice ai01 (x0).length zi01] 24 (0, 0), true, true⟩ : Blk) := (eN _ (List.getElem?_eq_some_iff.1 kb0M1).1 ng_kb0).trans kb0M1
  have kb1N : N[H.length + (1)]? = some (⟨.cells #[.slice ai11 (x1).length zi11] 24 (0, 0), true, true⟩ : Blk) := (eN _ (List.getElem?_eq_some_iff.1 kb1M1).1 ng_kb1).trans kb1M1
  have kx0N : N[H.length + (X1.length + (X2.length + (X3.length + X4.length)) + 1 + 1)]? = some (⟨.cells #[.slice ax01 (x0).length zx01] 30 (0, 0), true, true⟩ : Blk) := (eN _ (List.getElem?_eq_some_iff.1 kx0M1).1 ng_kx0).trans kx0M1
  have kx1N : N[H.length + (X1.length + (X2.length + (X3.length + (X4.length + (X5.length + 1)))) + 1 + 1)]? = some (⟨.cells #[.slice ax11 (x1).length zx11] 30 (0, 0), true, true⟩ : Blk) := (eN _ (List.getElem?_eq_some_iff.1 kx1M1).1 ng_kx1).trans kx1M1
  have kr0N := Rp.fr (H' := N) kr0M1 fun j hj => eN j (Rp.lt kr0M1 j hj) (og_0 j (Rp.lt h0' j hj))
  have kr1N := Rp.fr (H' := N) kr1M1 fun j hj => eN j (Rp.lt kr1M1 j hj) (og_0 j (Rp.lt h1' j hj))
  have krwN := Rp.fr (H' := N) krwM1 fun j hj => eN j (Rp.lt krwM1 j hj) fun h => dgw j h hj
  have hkHN : ∀ j, j < H.length → N[j]? = H[j]? := fun j hj => (eN j (by have := hkl; omega) (og_0 j hj)).trans (hkHM1 j hj)
  have hklN : K.length ≤ N.length := by omega
  simp +contextual (dsimp := false) [kb0N, kb1N, kx0N, kx1N]
  refine CallK.fl ⟨_, Tryz.func16, rfl, rfl⟩ (heldStringS_ac (k := 1) qN rfl (by have := mwg; omega)) ?_
  simp +contextual (dsimp := false) [kb0N, kb1N, kx0N, kx1N]
  try refine ifA_dec (fun h => by omega) (fun _ => ?_)
  refine CallK.of ⟨_, Tryz.func10, rfl, rfl⟩ (toAccount_ac kr0N hb0) ?_
  rintro v S' ⟨cr0, Fr0, rfl, her0, hvr0, hfr0⟩
  obtain ⟨Y0, rfl⟩ := her0.split
  try simp only [List.append_assoc, List.cons_append, List.nil_append] at hvr0 ⊢
  obtain ⟨ar01, zr01, rfl⟩ := hvr0.form
  have kb0E : ∀ T : Heap, (N ++ T)[H.length]? = some (⟨.cells #[.slice ai01 (x0).length zi01] 24 (0, 0), true, true⟩ : Blk) := fun T => (get_ext (List.getElem?_eq_some_iff.1 kb0N).1).trans kb0N
  have kb1E : ∀ T : Heap, (N ++ T)[H.length + (1)]? = some (⟨.cells #[.slice ai11 (x1).length zi11] 24 (0, 0), true, true⟩ : Blk) := fun T => (get_ext (List.getElem?_eq_some_iff.1 kb1N).1).trans kb1N
  have kx0E : ∀ T : Heap, (N ++ T)[H.length + (X1.length + (X2.length + (X3.length + X4.length)) + 1 + 1)]? = some (⟨.cells #[.slice ax01 (x0).length zx01] 30 (0, 0), true, true⟩ : Blk) := fun T => (get_ext (List.getElem?_eq_some_iff.1 kx0N).1).trans kx0N
  have kx1E : ∀ T : Heap, (N ++ T)[H.length + (X1.length + (X2.length + (X3.length + (X4.length + (X5.length + 1)))) + 1 + 1)]? = some (⟨.cells #[.slice ax11 (x1).length zx11] 30 (0, 0), true, true⟩ : Blk) := fun T => (get_ext (List.getElem?_eq_some_iff.1 kx1N).1).trans kx1N
  simp +contextual (dsimp := false) [kb0E, kb1E, kx0E, kx1E]
  refine CallK.of ⟨_, Tryz.func10, rfl, rfl⟩ (toAccount_ac (Rp.ext kr1N (by first | exact Ext.app _ _ | exact Ext.refl _ | (refine Ext.of ?_; simp))) hb1) ?_
  rintro v S' ⟨cr1, Fr1, rfl, her1, hvr1, hfr1⟩
  obtain ⟨Y1, rfl⟩ := her1.split
  try simp only [List.append_assoc, List.cons_append, List.nil_append] at hvr1 ⊢
  obtain ⟨ar11, zr11, rfl⟩ := hvr1.form
  simp +contextual (dsimp := false) [kb0E, kb1E, kx0E, kx1E]
  refine CallK.of ⟨_, Tryz.func11, rfl, rfl⟩ (implWhy_ac (Rp.ext hvr0 (by first | exact Ext.app _ _ | exact Ext.refl _ | (refine Ext.of ?_; simp))) (Rp.ext hvr1 (by first | exact Ext.app _ _ | exact Ext.refl _ | (refine Ext.of ?_; simp))) (hW.ext (fun j hj => (get_ext (by have := hkl; omega)).trans (hkHN j hj))) (hP.ext (fun j hj => (get_ext (by have := hkl; omega)).trans (hkHN j hj))) hg0 hg2) ?_
  rintro v S' ⟨Fh, heh, hvh, hfh⟩
  obtain ⟨Z, rfl⟩ := heh.split
  try simp only [List.append_assoc, List.cons_append, List.nil_append] at hvh ⊢
  obtain ⟨ah1, zh1, rfl⟩ := hvh.form
  simp +contextual (dsimp := false) [kb0E, kb1E, kx0E, kx1E]
  refine CallK.fl ⟨_, Tryz.func12, rfl, rfl⟩ (eqStringS_ac (Rp.ext hvh (by first | exact Ext.app _ _ | exact Ext.refl _ | (refine Ext.of ?_; simp))) (Rp.ext krwN (by first | exact Ext.app _ _ | exact Ext.refl _ | (refine Ext.of ?_; simp)))) ?_
  simp +contextual (dsimp := false) [kb0E, kb1E, kx0E, kx1E]
  try exact fun j hj => (get_ext (by have := hkl; omega)).trans (hkHN j hj)
end Go.Proofs.YtbigpkfdeaigeaaGreatDoor

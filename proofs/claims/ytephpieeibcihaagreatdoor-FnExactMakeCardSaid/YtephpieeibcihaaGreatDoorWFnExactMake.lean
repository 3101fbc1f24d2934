import Derived.Test.YtephpieeibcihaaGreatDoorShp
import Derived.Test.YtephpieeibcihaaGreatDoorRsw
import Derived.Test.YtephpieeibcihaaGreatDoorLSpc
set_option linter.all false
namespace Go.Proofs.YtephpieeibcihaaGreatDoor
open Go Go.Am
set_option maxRecDepth 20000
variable {ng : Nat}
set_option maxHeartbeats 2000000 in
theorem fnExactMake_ac {own0 : Bool} {H : Heap} {x0 : Spc} {c0 : List Value} {F0 : List Nat} (h0 : SpcR own0 H x0 c0 F0) {x1 : List UInt8} (hn1 : okS x1) (hP : P10 g10 H) (h2 : g10 < ng) :
    AC Tryz.prog ng 7 [.agg c0.toArray, str x1] H fun v S' => v = .bool true ∧ S' = H := by
  have h0' := h0
  obtain ⟨_, _, _, _, rfl, _, g1, g2⟩ := id h0
  obtain ⟨ai01, zi01, rfl⟩ := g1.form
  obtain ⟨ai02, zi02, rfl⟩ := g2.form
  refine .flat (AC.go [(12, .take 0 <| .take 1 <| .one 2 [0] <| .one 3 [] <| .take 4 <| .done)] Tryz.func7 rfl Tryz.ntmps7 rfl ⟨mixed, by kernel_rfl⟩ ?_)
  simp +contextual (dsimp := false)
  refine ifA_dec (fun h => ?_) (fun h => ?_)
  · simp
  refine CallK.fl ⟨_, Tryz.func19, rfl, rfl⟩ (szSpace_ac (Rp.ext h0' (by first | exact Ext.app _ _ | exact Ext.refl _ | (refine Ext.of ?_; simp))) (1048576) (by omega)) ?_
  simp +contextual (dsimp := false)
  refine ifA_dec (fun h => ?_) (fun h => ?_)
  · simp
  rw [szR_lt (by omega)] at h
  have hb0 : x0.w ≤ 1048576 := by omega
  have mw0 : x0.m ≤ 100000000 := by have := Spc.m_le x0; omega
  have mwg : sumN Deed.m (mkA x0 x1).1 ≤ 900000000 := mkA_m x0 x1
  have mwr : (mkA x0 x1).2.chain.length ≤ 60 := mkA_chain x0 x1
  refine CallK.of ⟨_, Tryz.func21, rfl, rfl⟩ (toSpace_ac (Rp.ext h0' (by first | exact Ext.app _ _ | exact Ext.refl _ | (refine Ext.of ?_; simp))) hb0) ?_
  rintro v S1 ⟨cu0, Fu0, rfl, heu0, hvu0, hfu0⟩
  obtain ⟨X1, rfl⟩ := heu0.split
  try simp only [List.append_assoc, List.cons_append, List.nil_append] at hvu0 ⊢
  obtain ⟨_, _, _, _, rfl, _, g1, g2⟩ := id hvu0
  obtain ⟨au01, zu01, rfl⟩ := g1.form
  obtain ⟨au02, zu02, rfl⟩ := g2.form
  simp +contextual (dsimp := false)
  refine CallK.of ⟨_, Tryz.func36, rfl, rfl⟩ (specMake_ac (Rp.ext hvu0 (by first | exact Ext.app _ _ | exact Ext.refl _ | (refine Ext.of ?_; simp))) hn1) ?_
  rintro v S2 ⟨sw, Fw, cv, Fv, rfl, hew, hvw, hvv, hfw, hfv, -⟩
  obtain ⟨X2, rfl⟩ := hew.split
  try simp only [List.append_assoc, List.cons_append, List.nil_append] at hvw ⊢
  try simp only [List.append_assoc, List.cons_append, List.nil_append] at hvv ⊢
  obtain ⟨aw1, zw1, rfl⟩ := hvw.form
  obtain ⟨_, rfl, ggv⟩ := id hvv
  obtain ⟨av1, zv1, rfl⟩ := ggv.form
  simp +contextual (dsimp := false)
  refine CallK.of ⟨_, Tryz.func21, rfl, rfl⟩ (toSpace_ac (Rp.ext h0' (by first | exact Ext.app _ _ | exact Ext.refl _ | (refine Ext.of ?_; simp))) hb0) ?_
  rintro v S3 ⟨cx0, Fx0, rfl, hex0, hvx0, hfx0⟩
  obtain ⟨X3, rfl⟩ := hex0.split
  try simp only [List.append_assoc, List.cons_append, List.nil_append] at hvx0 ⊢
  obtain ⟨_, _, _, _, rfl, _, g1, g2⟩ := id hvx0
  obtain ⟨ax01, zx01, rfl⟩ := g1.form
  obtain ⟨ax02, zx02, rfl⟩ := g2.form
  simp +contextual (dsimp := false)
  refine CallK.of ⟨_, Tryz.func37, rfl, rfl⟩ (implMake_ac (Rp.ext hvx0 (by first | exact Ext.app _ _ | exact Ext.refl _ | (refine Ext.of ?_; simp))) hn1 (hP.ext (by first | exact Ext.app _ _ | exact Ext.refl _ | (refine Ext.of ?_; simp))) h2) ?_
  rintro v S4 ⟨sg, Fg, cR, FR, rfl, heg, hvg, hvR, hfg, hfR, hdg⟩
  obtain ⟨X4, rfl⟩ := heg.split
  try simp only [List.append_assoc, List.cons_append, List.nil_append] at hvg ⊢
  try simp only [List.append_assoc, List.cons_append, List.nil_append] at hvR ⊢
  obtain ⟨ag1, zg1, rfl⟩ := hvg.form
  obtain ⟨_, rfl, ggR⟩ := id hvR
  obtain ⟨aR1, zR1, rfl⟩ := ggR.form
  simp +contextual (dsimp := false)
  refine CallK.fl ⟨_, Tryz.func32, rfl, rfl⟩ (eqAccount_ac (Rp.ext hvg (by first | exact Ext.app _ _ | exact Ext.refl _ | (refine Ext.of ?_; simp))) (Rp.ext hvw (by first | exact Ext.app _ _ | exact Ext.refl _ | (refine Ext.of ?_; simp)))) ?_
  simp +contextual (dsimp := false)
  refine CallK.fl ⟨_, Tryz.func23, rfl, rfl⟩ (eqResult_ac (Rp.ext hvR (by first | exact Ext.app _ _ | exact Ext.refl _ | (refine Ext.of ?_; simp))) (Rp.ext hvv (by first | exact Ext.app _ _ | exact Ext.refl _ | (refine Ext.of ?_; simp)))) ?_
  simp +contextual (dsimp := false)
  refine CallK.of ⟨_, Tryz.func21, rfl, rfl⟩ (toSpace_ac (Rp.ext h0' (by first | exact Ext.app _ _ | exact Ext.refl _ | (refine Ext.of ?_; simp))) hb0) ?_
  rintro v S5 ⟨cy0, Fy0, rfl, hey0, hvy0, hfy0⟩
  obtain ⟨X5, rfl⟩ := hey0.split
  try simp only [List.append_assoc, List.cons_append, List.nil_append] at hvy0 ⊢
  obtain ⟨_, _, _, _, rfl, _, g1, g2⟩ := id hvy0
  obtain ⟨ay01, zy01, rfl⟩ := g1.form
  obtain ⟨ay02, zy02, rfl⟩ := g2.form
  simp +contextual (dsimp := false)
  refine CallK.fl ⟨_, Tryz.func24, rfl, rfl⟩ (eqSpace_ac (Rp.ext hvx0 (by first | exact Ext.app _ _ | exact Ext.refl _ | (refine Ext.of ?_; simp))) hvy0) ?_
  simp +contextual (dsimp := false)
  refine CallK.gen fun K hK => ?_
  have hKH : ∀ j, j < H.length → K[j]? = H[j]? := fun j hj => by rw [hK]; exact get_ext hj
  have kb0 : K[H.length]? = some (⟨.cells #[.slice ai01 (x0).sources.length zi01, .slice ai02 (x0).targets.length zi02] 36 (0, 0), true, true⟩ : Blk) := by rw [hK]; first | (simp only [get_at, get_at0, List.getElem?_cons_succ, List.getElem?_cons_zero]; done) | simp
  have kw : K[H.length + (X1.length + X2.length + 1)]? = some (⟨.cells #[.slice aw1 ((mkA x0 x1).1).length zw1] 58 (0, 0), true, true⟩ : Blk) := by rw [hK]; first | (simp only [get_at, get_at0, List.getElem?_cons_succ, List.getElem?_cons_zero]; done) | simp
  have kv : K[H.length + (X1.length + (X2.length + 1) + 1)]? = some (⟨.cells #[int ((mkA x0 x1).2).code, str ((mkA x0 x1).2).text, .slice av1 ((mkA x0 x1).2).chain.length zv1] 39 (0, 0), true, true⟩ : Blk) := by rw [hK]; first | (simp only [get_at, get_at0, List.getElem?_cons_succ, List.getElem?_cons_zero]; done) | simp
  have kx0 : K[H.length + (X1.length + (X2.length + (X3.length + 1 + 1)) + 1)]? = some (⟨.cells #[.slice ax01 (x0).sources.length zx01, .slice ax02 (x0).targets.length zx02] 44 (0, 0), true, true⟩ : Blk) := by rw [hK]; first | (simp only [get_at, get_at0, List.getElem?_cons_succ, List.getElem?_cons_zero]; done) | simp
  have kg : K[H.length + (X1.length + (X2.length + (X3.length + (X4.length + 1) + 1 + 1)) + 1)]? = some (⟨.cells #[.slice ag1 ((mkA x0 x1).1).length zg1] 58 (0, 0), true, true⟩ : Blk) := by rw [hK]; first | (simp only [get_at, get_at0, List.getElem?_cons_succ, List.getElem?_cons_zero]; done) | simp
  have kR : K[H.length + (X1.length + (X2.length + (X3.length + (X4.length + 1 + 1) + 1 + 1)) + 1)]? = some (⟨.cells #[int ((mkA x0 x1).2).code, str ((mkA x0 x1).2).text, .slice aR1 ((mkA x0 x1).2).chain.length zR1] 39 (0, 0), true, true⟩ : Blk) := by rw [hK]; first | (simp only [get_at, get_at0, List.getElem?_cons_succ, List.getElem?_cons_zero]; done) | simp
  have kr0 := Rp.ext h0' (show Ext H K by rw [hK]; first | exact Ext.app _ _ | exact Ext.refl _ | (refine Ext.of ?_; simp))
  have krw := Rp.ext hvw (H' := K) (by rw [hK]; first | exact Ext.app _ _ | exact Ext.refl _ | (refine Ext.of ?_; simp))
  have krv := Rp.ext hvv (H' := K) (by rw [hK]; first | exact Ext.app _ _ | exact Ext.refl _ | (refine Ext.of ?_; simp))
  have krg := Rp.ext hvg (H' := K) (by rw [hK]; first | exact Ext.app _ _ | exact Ext.refl _ | (refine Ext.of ?_; simp))
  have krR := Rp.ext hvR (H' := K) (by rw [hK]; first | exact Ext.app _ _ | exact Ext.refl _ | (refine Ext.of ?_; simp))
  have krx0 := Rp.ext hvx0 (H' := K) (by rw [hK]; first | exact Ext.app _ _ | exact Ext.refl _ | (refine Ext.of ?_; simp))
  have hlw := Rp.lt hvw
  have hlv := Rp.lt hvv
  have hlg := Rp.lt hvg
  have hlR := Rp.lt hvR
  have hlx0 := Rp.lt hvx0
  have hkl := congrArg List.length hK
  simp only [List.length_append, List.length_cons, List.length_nil, Fresh] at hkl hlw hlv hlg hlR hlx0 hfw hfv hfg hfR hfx0
  have nx0_kb0 : H.length ∉ Fx0 := fun hm => by have a := hfx0.1 _ hm; have b := hlx0 _ hm; omega
  have nx0_kw : H.length + (X1.length + X2.length + 1) ∉ Fx0 := fun hm => by have a := hfx0.1 _ hm; have b := hlx0 _ hm; omega
  have nx0_kv : H.length + (X1.length + (X2.length + 1) + 1) ∉ Fx0 := fun hm => by have a := hfx0.1 _ hm; have b := hlx0 _ hm; omega
  have nx0_kx0 : H.length + (X1.length + (X2.length + (X3.length + 1 + 1)) + 1) ∉ Fx0 := fun hm => by have a := hfx0.1 _ hm; have b := hlx0 _ hm; omega
  have nx0_kg : H.length + (X1.length + (X2.length + (X3.length + (X4.length + 1) + 1 + 1)) + 1) ∉ Fx0 := fun hm => by have a := hfx0.1 _ hm; have b := hlx0 _ hm; omega
  have nx0_kR : H.length + (X1.length + (X2.length + (X3.length + (X4.length + 1 + 1) + 1 + 1)) + 1) ∉ Fx0 := fun hm => by have a := hfx0.1 _ hm; have b := hlx0 _ hm; omega
  have ng_kb0 : H.length ∉ Fg := fun hm => by have a := hfg.1 _ hm; have b := hlg _ hm; omega
  have ng_kw : H.length + (X1.length + X2.length + 1) ∉ Fg := fun hm => by have a := hfg.1 _ hm; have b := hlg _ hm; omega
  have ng_kv : H.length + (X1.length + (X2.length + 1) + 1) ∉ Fg := fun hm => by have a := hfg.1 _ hm; have b := hlg _ hm; omega
  have ng_kx0 : H.length + (X1.length + (X2.length + (X3.length + 1 + 1)) + 1) ∉ Fg := fun hm => by have a := hfg.1 _ hm; have b := hlg _ hm; omega
  have ng_kg : H.length + (X1.length + (X2.length + (X3.length + (X4.length + 1) + 1 + 1)) + 1) ∉ Fg := fun hm => by have a := hfg.1 _ hm; have b := hlg _ hm; omega
  have ng_kR : H.length + (X1.length + (X2.length + (X3.length + (X4.length + 1 + 1) + 1 + 1)) + 1) ∉ Fg := fun hm => by have a := hfg.1 _ hm; have b := hlg _ hm; omega
  have nR_kb0 : H.length ∉ FR := fun hm => by have a := hfR.1 _ hm; have b := hlR _ hm; omega
  have nR_kw : H.length + (X1.length + X2.length + 1) ∉ FR := fun hm => by have a := hfR.1 _ hm; have b := hlR _ hm; omega
  have nR_kv : H.length + (X1.length + (X2.length + 1) + 1) ∉ FR := fun hm => by have a := hfR.1 _ hm; have b := hlR _ hm; omega
  have nR_kx0 : H.length + (X1.length + (X2.length + (X3.length + 1 + 1)) + 1) ∉ FR := fun hm => by have a := hfR.1 _ hm; have b := hlR _ hm; omega
  have nR_kg : H.length + (X1.length + (X2.length + (X3.length + (X4.length + 1) + 1 + 1)) + 1) ∉ FR := fun hm => by have a := hfR.1 _ hm; have b := hlR _ hm; omega
  have nR_kR : H.length + (X1.length + (X2.length + (X3.length + (X4.length + 1 + 1) + 1 + 1)) + 1) ∉ FR := fun hm => by have a := hfR.1 _ hm; have b := hlR _ hm; omega
  have dgw : ∀ j ∈ Fg, j ∉ Fw := fun j h1 h2 => by have a := hfg.1 _ h1; have b := hlg _ h1; have c := hfw.1 _ h2; have d := hlw _ h2; omega
  have dgv : ∀ j ∈ Fg, j ∉ Fv := fun j h1 h2 => by have a := hfg.1 _ h1; have b := hlg _ h1; have c := hfv.1 _ h2; have d := hlv _ h2; omega
  have dRw : ∀ j ∈ FR, j ∉ Fw := fun j h1 h2 => by have a := hfR.1 _ h1; have b := hlR _ h1; have c := hfw.1 _ h2; have d := hlw _ h2; omega
  have dRv : ∀ j ∈ FR, j ∉ Fv := fun j h1 h2 => by have a := hfR.1 _ h1; have b := hlR _ h1; have c := hfv.1 _ h2; have d := hlv _ h2; omega
  have dx0w : ∀ j ∈ Fx0, j ∉ Fw := fun j h1 h2 => by have a := hfx0.1 _ h1; have b := hlx0 _ h1; have c := hfw.1 _ h2; have d := hlw _ h2; omega
  have dx0v : ∀ j ∈ Fx0, j ∉ Fv := fun j h1 h2 => by have a := hfx0.1 _ h1; have b := hlx0 _ h1; have c := hfv.1 _ h2; have d := hlv _ h2; omega
  have dx0g : ∀ j ∈ Fx0, j ∉ Fg := fun j h1 h2 => by have a := hfx0.1 _ h1; have b := hlx0 _ h1; have c := hfg.1 _ h2; have d := hlg _ h2; omega
  have dx0R : ∀ j ∈ Fx0, j ∉ FR := fun j h1 h2 => by have a := hfx0.1 _ h1; have b := hlx0 _ h1; have c := hfR.1 _ h2; have d := hlR _ h2; omega
  have dgR : ∀ j ∈ Fg, j ∉ FR := by rcases hdg with h | h <;> simp [h]
  have ox0_0 : ∀ j, j < H.length → j ∉ Fx0 := fun j hj hm => by have a := hfx0.1 _ hm; omega
  have og_0 : ∀ j, j < H.length → j ∉ Fg := fun j hj hm => by have a := hfg.1 _ hm; omega
  have oR_0 : ∀ j, j < H.length → j ∉ FR := fun j hj hm => by have a := hfR.1 _ hm; omega
  clear hK
  refine CallK.of ⟨_, Tryz.func25, rfl, rfl⟩ (markSpace_ac krx0 hfx0.2 (1) (by rfl) (by have := mw0; omega)) ?_
  rintro v M0 ⟨rfl, qM0, lM0, eM0'⟩
  have hleM0 : K.length ≤ M0.length := lM0
  have eM0 : ∀ j, j < K.length → j ∉ Fx0 → M0[j]? = K[j]? := eM0'
  have kb0M0 : M0[H.length]? = some (⟨.cells #[.slice ai01 (x0).sources.length zi01, .slice ai02 (x0).targets.length zi02] 36 (0, 0), true, true⟩ : Blk) := (eM0 _ (List.getElem?_eq_some_iff.1 kb0).1 nx0_kb0).trans kb0
  have kwM0 : M0[H.length + (X1.length + X2.length + 1)]? = some (⟨.cells #[.slice aw1 ((mkA x0 x1).1).length zw1] 58 (0, 0), true, true⟩ : Blk) := (eM0 _ (List.getElem?_eq_some_iff.1 kw).1 nx0_kw).trans kw
  have kvM0 : M0[H.length + (X1.length + (X2.length + 1) + 1)]? = some (⟨.cells #[int ((mkA x0 x1).2).code, str ((mkA x0 x1).2).text, .slice av1 ((mkA x0 x1).2).chain.length zv1] 39 (0, 0), true, true⟩ : Blk) := (eM0 _ (List.getElem?_eq_some_iff.1 kv).1 nx0_kv).trans kv
  have kx0M0 : M0[H.length + (X1.length + (X2.length + (X3.length + 1 + 1)) + 1)]? = some (⟨.cells #[.slice ax01 (x0).sources.length zx01, .slice ax02 (x0).targets.length zx02] 44 (0, 0), true, true⟩ : Blk) := (eM0 _ (List.getElem?_eq_some_iff.1 kx0).1 nx0_kx0).trans kx0
  have kgM0 : M0[H.length + (X1.length + (X2.length + (X3.length + (X4.length + 1) + 1 + 1)) + 1)]? = some (⟨.cells #[.slice ag1 ((mkA x0 x1).1).length zg1] 58 (0, 0), true, true⟩ : Blk) := (eM0 _ (List.getElem?_eq_some_iff.1 kg).1 nx0_kg).trans kg
  have kRM0 : M0[H.length + (X1.length + (X2.length + (X3.length + (X4.length + 1 + 1) + 1 + 1)) + 1)]? = some (⟨.cells #[int ((mkA x0 x1).2).code, str ((mkA x0 x1).2).text, .slice aR1 ((mkA x0 x1).2).chain.length zR1] 39 (0, 0), true, true⟩ : Blk) := (eM0 _ (List.getElem?_eq_some_iff.1 kR).1 nx0_kR).trans kR
  have kr0M0 := Rp.fr (H' := M0) kr0 fun j hj => eM0 j (Rp.lt kr0 j hj) (ox0_0 j (Rp.lt h0' j hj))
  have krwM0 := Rp.fr (H' := M0) krw fun j hj => eM0 j (Rp.lt krw j hj) fun h => dx0w j h hj
  have krvM0 := Rp.fr (H' := M0) krv fun j hj => eM0 j (Rp.lt krv j hj) fun h => dx0v j h hj
  have krgM0 := Rp.fr (H' := M0) krg fun j hj => eM0 j (Rp.lt krg j hj) fun h => dx0g j h hj
  have krRM0 := Rp.fr (H' := M0) krR fun j hj => eM0 j (Rp.lt krR j hj) fun h => dx0R j h hj
  have hkHM0 : ∀ j, j < H.length → M0[j]? = H[j]? := fun j hj => (eM0 j (by have := hkl; omega) (ox0_0 j hj)).trans (hKH j hj)
  have hklM0 : K.length ≤ M0.length := by omega
  simp +contextual (dsimp := false) [kb0M0, kwM0, kvM0, kx0M0, kgM0, kRM0]
  try refine ifA_dec (fun h => by omega) (fun _ => ?_)
  refine CallK.fl ⟨_, Tryz.func32, rfl, rfl⟩ (eqAccount_ac krgM0 krwM0) ?_
  simp +contextual (dsimp := false) [kb0M0, kwM0, kvM0, kx0M0, kgM0, kRM0]
  refine CallK.fl ⟨_, Tryz.func23, rfl, rfl⟩ (eqResult_ac krRM0 krvM0) ?_
  simp +contextual (dsimp := false) [kb0M0, kwM0, kvM0, kx0M0, kgM0, kRM0]
  refine CallK.of ⟨_, Tryz.func33, rfl, rfl⟩ (markAccount_ac krgM0 hfg.2 (1) (by rfl) (by have := mwg; omega)) ?_
  rintro v N0 ⟨rfl, qN0, lN0, eN0'⟩
  have hleN0 : M0.length ≤ N0.length := lN0
  have eN0 : ∀ j, j < M0.length → j ∉ Fg → N0[j]? = M0[j]? := eN0'
  have kb0N0 : N0[H.length]? = some (⟨.cells #[.slice ai01 (x0).sources.length zi01, .slice ai02 (x0).targets.length zi02] 36 (0, 0), true, true⟩ : Blk) := (eN0 _ (List.getElem?_eq_some_iff.1 kb0M0).1 ng_kb0).trans kb0M0
  have kwN0 : N0[H.length + (X1.length + X2.length + 1)]? = some (⟨.cells #[.slice aw1 ((mkA x0 x1).1).length zw1] 58 (0, 0), true, true⟩ : Blk) := (eN0 _ (List.getElem?_eq_some_iff.1 kwM0).1 ng_kw).trans kwM0
  have kvN0 : N0[H.length + (X1.length + (X2.length + 1) + 1)]? = some (⟨.cells #[int ((mkA x0 x1).2).code, str ((mkA x0 x1).2).text, .slice av1 ((mkA x0 x1).2).chain.length zv1] 39 (0, 0), true, true⟩ : Blk) := (eN0 _ (List.getElem?_eq_some_iff.1 kvM0).1 ng_kv).trans kvM0
  have kx0N0 : N0[H.length + (X1.length + (X2.length + (X3.length + 1 + 1)) + 1)]? = some (⟨.cells #[.slice ax01 (x0).sources.length zx01, .slice ax02 (x0).targets.length zx02] 44 (0, 0), true, true⟩ : Blk) := (eN0 _ (List.getElem?_eq_some_iff.1 kx0M0).1 ng_kx0).trans kx0M0
  have kgN0 : N0[H.length + (X1.length + (X2.length + (X3.length + (X4.length + 1) + 1 + 1)) + 1)]? = some (⟨.cells #[.slice ag1 ((mkA x0 x1).1).length zg1] 58 (0, 0), true, true⟩ : Blk) := (eN0 _ (List.getElem?_eq_some_iff.1 kgM0).1 ng_kg).trans kgM0
  have kRN0 : N0[H.length + (X1.length + (X2.length + (X3.length + (X4.length + 1 + 1) + 1 + 1)) + 1)]? = some (⟨.cells #[int ((mkA x0 x1).2).code, str ((mkA x0 x1).2).text, .slice aR1 ((mkA x0 x1).2).chain.length zR1] 39 (0, 0), true, true⟩ : Blk) := (eN0 _ (List.getElem?_eq_some_iff.1 kRM0).1 ng_kR).trans kRM0
  have kr0N0 := Rp.fr (H' := N0) kr0M0 fun j hj => eN0 j (Rp.lt kr0M0 j hj) (og_0 j (Rp.lt h0' j hj))
  have krwN0 := Rp.fr (H' := N0) krwM0 fun j hj => eN0 j (Rp.lt krwM0 j hj) fun h => dgw j h hj
  have krvN0 := Rp.fr (H' := N0) krvM0 fun j hj => eN0 j (Rp.lt krvM0 j hj) fun h => dgv j h hj
  have krRN0 := Rp.fr (H' := N0) krRM0 fun j hj => eN0 j (Rp.lt krRM0 j hj) fun h => dgR j h hj
  have hkHN0 : ∀ j, j < H.length → N0[j]? = H[j]? := fun j hj => (eN0 j (by have := hkl; omega) (og_0 j hj)).trans (hkHM0 j hj)
  have hklN0 : K.length ≤ N0.length := by omega
  simp +contextual (dsimp := false) [kb0N0, kwN0, kvN0, kx0N0, kgN0, kRN0]
  refine CallK.of ⟨_, Tryz.func26, rfl, rfl⟩ (markResult_ac krRN0 hfR.2 (1 + sumN Deed.m (mkA x0 x1).1) (by omega) (by have := mwg; have := mwr; omega)) ?_
  rintro v N ⟨rfl, qN, lN, eN'⟩
  have hleN : N0.length ≤ N.length := lN
  have eN : ∀ j, j < N0.length → j ∉ FR → N[j]? = N0[j]? := eN'
  have qA := Rp.fr (H' := N) qN0 fun j hj => eN j (Rp.lt qN0 j hj) fun h => dgR j hj h
  have kb0N : N[H.length]? = some (⟨.cells #[.slice ai01 (x0).sources.length zi01, .slice ai02 (x0).targets.length zi02] 36 (0, 0), true, true⟩ : Blk) := (eN _ (List.getElem?_eq_some_iff.1 kb0N0).1 nR_kb0).trans kb0N0
  have kwN : N[H.length + (X1.length + X2.length + 1)]? = some (⟨.cells #[.slice aw1 ((mkA x0 x1).1).length zw1] 58 (0, 0), true, true⟩ : Blk) := (eN _ (List.getElem?_eq_some_iff.1 kwN0).1 nR_kw).trans kwN0
  have kvN : N[H.length + (X1.length + (X2.length + 1) + 1)]? = some (⟨.cells #[int ((mkA x0 x1).2).code, str ((mkA x0 x1).2).text, .slice av1 ((mkA x0 x1).2).chain.length zv1] 39 (0, 0), true, true⟩ : Blk) := (eN _ (List.getElem?_eq_some_iff.1 kvN0).1 nR_kv).trans kvN0
  have kx0N : N[H.length + (X1.length + (X2.length + (X3.length + 1 + 1)) + 1)]? = some (⟨.cells #[.slice ax01 (x0).sources.length zx01, .slice ax02 (x0).targets.length zx02] 44 (0, 0), true, true⟩ : Blk) := (eN _ (List.getElem?_eq_some_iff.1 kx0N0).1 nR_kx0).trans kx0N0
  have kgN : N[H.length + (X1.length + (X2.length + (X3.length + (X4.length + 1) + 1 + 1)) + 1)]? = some (⟨.cells #[.slice ag1 ((mkA x0 x1).1).length zg1] 58 (0, 0), true, true⟩ : Blk) := (eN _ (List.getElem?_eq_some_iff.1 kgN0).1 nR_kg).trans kgN0
  have kRN : N[H.length + (X1.length + (X2.length + (X3.length + (X4.length + 1 + 1) + 1 + 1)) + 1)]? = some (⟨.cells #[int ((mkA x0 x1).2).code, str ((mkA x0 x1).2).text, .slice aR1 ((mkA x0 x1).2).chain.length zR1] 39 (0, 0), true, true⟩ : Blk) := (eN _ (List.getElem?_eq_some_iff.1 kRN0).1 nR_kR).trans kRN0
  have kr0N := Rp.fr (H' := N) kr0N0 fun j hj => eN j (Rp.lt kr0N0 j hj) (oR_0 j (Rp.lt h0' j hj))
  have krwN := Rp.fr (H' := N) krwN0 fun j hj => eN j (Rp.lt krwN0 j hj) fun h => dRw j h hj
  have krvN := Rp.fr (H' := N) krvN0 fun j hj => eN j (Rp.lt krvN0 j hj) fun h => dRv j h hj
  have hkHN : ∀ j, j < H.length → N[j]? = H[j]? := fun j hj => (eN j (by have := hkl; omega) (oR_0 j hj)).trans (hkHN0 j hj)
  have hklN : K.length ≤ N.length := by omega
  simp +contextual (dsimp := false) [kb0N, kwN, kvN, kx0N, kgN, kRN]
  refine CallK.fl ⟨_, Tryz.func38, rfl, rfl⟩ (heldAccount_ac (k := 1) qA rfl (by have := mwg; omega)) ?_
  simp +contextual (dsimp := false) [kb0N, kwN, kvN, kx0N, kgN, kRN]
  try refine ifA_dec (fun h => by omega) (fun _ => ?_)
  refine CallK.fl ⟨_, Tryz.func27, rfl, rfl⟩ (heldResult_ac (k := 1 + sumN Deed.m (mkA x0 x1).1) qN (by omega) (by have := mwg; have := mwr; omega)) ?_
  simp +contextual (dsimp := false) [kb0N, kwN, kvN, kx0N, kgN, kRN]
  try refine ifA_dec (fun h => by omega) (fun _ => ?_)
  refine CallK.of ⟨_, Tryz.func21, rfl, rfl⟩ (toSpace_ac kr0N hb0) ?_
  rintro v S' ⟨cr0, Fr0, rfl, her0, hvr0, hfr0⟩
  obtain ⟨Y0, rfl⟩ := her0.split
  try simp only [List.append_assoc, List.cons_append, List.nil_append] at hvr0 ⊢
  obtain ⟨_, _, _, _, rfl, _, g1, g2⟩ := id hvr0
  obtain ⟨ar01, zr01, rfl⟩ := g1.form
  obtain ⟨ar02, zr02, rfl⟩ := g2.form
  have kb0E : ∀ T : Heap, (N ++ T)[H.length]? = some (⟨.cells #[.slice ai01 (x0).sources.length zi01, .slice ai02 (x0).targets.length zi02] 36 (0, 0), true, true⟩ : Blk) := fun T => (get_ext (List.getElem?_eq_some_iff.1 kb0N).1).trans kb0N
  have kwE : ∀ T : Heap, (N ++ T)[H.length + (X1.length + X2.length + 1)]? = some (⟨.cells #[.slice aw1 ((mkA x0 x1).1).length zw1] 58 (0, 0), true, true⟩ : Blk) := fun T => (get_ext (List.getElem?_eq_some_iff.1 kwN).1).trans kwN
  have kvE : ∀ T : Heap, (N ++ T)[H.length + (X1.length + (X2.length + 1) + 1)]? = some (⟨.cells #[int ((mkA x0 x1).2).code, str ((mkA x0 x1).2).text, .slice av1 ((mkA x0 x1).2).chain.length zv1] 39 (0, 0), true, true⟩ : Blk) := fun T => (get_ext (List.getElem?_eq_some_iff.1 kvN).1).trans kvN
  have kx0E : ∀ T : Heap, (N ++ T)[H.length + (X1.length + (X2.length + (X3.length + 1 + 1)) + 1)]? = some (⟨.cells #[.slice ax01 (x0).sources.length zx01, .slice ax02 (x0).targets.length zx02] 44 (0, 0), true, true⟩ : Blk) := fun T => (get_ext (List.getElem?_eq_some_iff.1 kx0N).1).trans kx0N
  have kgE : ∀ T : Heap, (N ++ T)[H.length + (X1.length + (X2.length + (X3.length + (X4.length + 1) + 1 + 1)) + 1)]? = some (⟨.cells #[.slice ag1 ((mkA x0 x1).1).length zg1] 58 (0, 0), true, true⟩ : Blk) := fun T => (get_ext (List.getElem?_eq_some_iff.1 kgN).1).trans kgN
  have kRE : ∀ T : Heap, (N ++ T)[H.length + (X1.length + (X2.length + (X3.length + (X4.length + 1 + 1) + 1 + 1)) + 1)]? = some (⟨.cells #[int ((mkA x0 x1).2).code, str ((mkA x0 x1).2).text, .slice aR1 ((mkA x0 x1).2).chain.length zR1] 39 (0, 0), true, true⟩ : Blk) := fun T => (get_ext (List.getElem?_eq_some_iff.1 kRN).1).trans kRN
  simp +contextual (dsimp := false) [kb0E, kwE, kvE, kx0E, kgE, kRE]
  refine CallK.of ⟨_, Tryz.func37, rfl, rfl⟩ (implMake_ac (Rp.ext hvr0 (by first | exact Ext.app _ _ | exact Ext.refl _ | (refine Ext.of ?_; simp))) hn1 (hP.ext (fun j hj => (get_ext (by have := hkl; omega)).trans (hkHN j hj))) h2) ?_
  rintro v S' ⟨sh, Fh, cH, FH, rfl, heh, hvh, hvH, hfh, hfH, -⟩
  obtain ⟨Z, rfl⟩ := heh.split
  try simp only [List.append_assoc, List.cons_append, List.nil_append] at hvh ⊢
  try simp only [List.append_assoc, List.cons_append, List.nil_append] at hvH ⊢
  obtain ⟨ah1, zh1, rfl⟩ := hvh.form
  obtain ⟨_, rfl, ggH⟩ := id hvH
  obtain ⟨aH1, zH1, rfl⟩ := ggH.form
  simp +contextual (dsimp := false) [kb0E, kwE, kvE, kx0E, kgE, kRE]
  refine CallK.fl ⟨_, Tryz.func32, rfl, rfl⟩ (eqAccount_ac (Rp.ext hvh (by first | exact Ext.app _ _ | exact Ext.refl _ | (refine Ext.of ?_; simp))) (Rp.ext krwN (by first | exact Ext.app _ _ | exact Ext.refl _ | (refine Ext.of ?_; simp)))) ?_
  simp +contextual (dsimp := false) [kb0E, kwE, kvE, kx0E, kgE, kRE]
  refine CallK.fl ⟨_, Tryz.func23, rfl, rfl⟩ (eqResult_ac (Rp.ext hvH (by first | exact Ext.app _ _ | exact Ext.refl _ | (refine Ext.of ?_; simp))) (Rp.ext krvN (by first | exact Ext.app _ _ | exact Ext.refl _ | (refine Ext.of ?_; simp)))) ?_
  simp +contextual (dsimp := false) [kb0E, kwE, kvE, kx0E, kgE, kRE]
  try exact fun j hj => (get_ext (by have := hkl; omega)).trans (hkHN j hj)
end Go.Proofs.YtephpieeibcihaaGreatDoor

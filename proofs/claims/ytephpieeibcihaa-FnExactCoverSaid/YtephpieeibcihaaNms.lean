/- Names, both. No condition. -/
import Derived.Test.YtephpieeibcihaaSrc
set_option linter.unusedSimpArgs false
set_option linter.unusedVariables false
namespace Go.Proofs.Ytephpieeibcihaa
open Go Go.Am Go.Proofs
set_option maxRecDepth 20000
variable {ng : Nat}
theorem allNames_s {ds : List Deed} {i : Nat} (h : i < ds.length) : allNames (ds.take (i + 1)) = allNames (ds.take i) ++ ds[i].name :: ds[i].links.map (·.name) := by
  unfold allNames
  rw [List.take_succ_eq_append_getElem h, List.flatMap_append]
  simp
theorem lnkNames_s {ls : List Lnk} {i : Nat} (h : i < ls.length) : (ls.take (i + 1)).map (·.name) = (ls.take i).map (·.name) ++ [ls[i].name] := by
  rw [List.take_succ_eq_append_getElem h, List.map_append]
  rfl
theorem allNames_part {ds : List Deed} (h : accOk ds = true) (i : Nat) (hi : i < ds.length) (k : Nat) : (allNames (ds.take i) ++ ds[i].name :: (ds[i].links.take k).map (·.name)).length ≤ 80400 := by
  have h1 := allNames_len h
  have h2 : (allNames (ds.take (i + 1)) ++ allNames (ds.drop (i + 1))).length ≤ 201 * 400 := by
    have : allNames (ds.take (i + 1)) ++ allNames (ds.drop (i + 1)) = allNames ds := by
      unfold allNames
      rw [← List.flatMap_append, List.take_append_drop]
    rw [this]
    exact h1
  rw [allNames_s hi] at h2
  simp only [List.length_append, List.length_cons, List.length_map, List.length_take] at h2 ⊢
  omega
theorem implNames_ac {own : Bool} {ds : List Deed} {sd : Value} {FD : List Nat} {H : Heap} (hs : DeedsR own H ds [sd] FD) : AC Try.prog ng 19 [.agg #[sd]] H fun v S' => ∃ F', Ext H S' ∧ StrsR true S' (namesOf ds) [v] F' ∧ Fresh H.length F' := by
  obtain ⟨ad, zd, rfl⟩ := hs.form
  have hb := hs.bound
  refine AC.go [] Try.func19 rfl Try.ntmps19 rfl ⟨mixed, by kernel_rfl⟩ ?_
  simp +contextual (dsimp := false)
  refine CallK.fl ⟨_, Try.func27, rfl, rfl⟩ (accValid_ac (Rp.ext hs (Ext.app _ _))) ?_
  unfold namesOf
  cases hok : accOk ds with
  | false =>
    simp +contextual (dsimp := false)
    exact ⟨[], SlR.nil, Fresh.nil _⟩
  | true =>
    simp +contextual (dsimp := false)
    have hlen := accOk_len hok
    have hpart := allNames_part hok
    obtain ⟨H0, hH0⟩ : ∃ H0, H0 = H ++ [(⟨.cells #[.slice ad ds.length zd] 41 (0, 0), true, true⟩ : Blk), ⟨.map #[] 0, true, true⟩] := ⟨_, rfl⟩
    have hx0 : Ext H H0 := by rw [hH0]; exact Ext.app _ _
    have hl0 : H0.length = H.length + 2 := by rw [hH0]; simp
    have hm0 : MapR kS H0 (H.length + 1) (vS []) := MapR.new (by rw [hH0]; simp)
    rw [← hH0]
    refine LoopA.up (σ := Nat × Heap × List (List UInt8)) [3, 13, 14, 15] (fun i => [(15, int i.1)]) (fun i => i.2.1)
      (fun x => x.1 ≤ ds.length ∧ Ext H x.2.1 ∧ H.length + 2 ≤ x.2.1.length ∧ MapR kS x.2.1 (H.length + 1) (vS x.2.2) ∧ x.2.2.Nodup ∧ (∀ y, y ∈ x.2.2 ↔ y ∈ allNames (ds.take x.1)) ∧ ∀ y ∈ x.2.2, okS y) (fun i => ds.length - i.1) (0, H0, []) rfl ⟨by simp, hx0, by dsimp only; omega, hm0, by simp, by simp [allNames], by simp⟩ ?_
    rintro ⟨i, hp, l⟩ ⟨hi, hx, hle, hm, hnd, hmem, hks⟩
    dsimp only at hi hx hle hm hnd hmem hks
    simp +contextual (dsimp := false)
    refine ifA_dec (fun h3 => ?_) (fun h3 => ?_)
    · obtain ⟨id, o, c, e, f, ow, cs, Fi, E⟩ := SlR.get (Rp.ext hs hx) i h3
      obtain ⟨hkk, s1, s2, G1, G2, rfl, hFi, hc1, hc2⟩ := E.rep
      obtain ⟨a1, z1, rfl⟩ := hc1.form
      obtain ⟨a2, z2, rfl⟩ := hc2.form
      have hm3 : ∀ T : Heap, MapR kS (hp ++ T) (H.length + 1) (vS l) := fun T => hm.fr (get_ext hm.lt)
      simp +contextual (dsimp := false) [E.idx, E.goB, E.le, E.lt, E.ext, wrap_succ (show i < 9223372036854775807 by omega)]
      refine UpdK.map (a := ds[i].name) keySB (hm3 _) rfl ?_
      intro es cl hmp
      rw [putP_vS] at hmp
      have hll := hc2.bound
      obtain ⟨h1, hh1⟩ : ∃ h1, h1 = (hp ++ [(⟨.cells #[str ds[i].name, int ds[i].kind, int ds[i].code, str ds[i].text, .slice a1 ds[i].action.length z1, .slice a2 ds[i].links.length z2] 55 (0, 0), true, true⟩ : Blk)]).set (H.length + 1) (⟨.map es cl, true, true⟩ : Blk) := ⟨_, rfl⟩
      rw [← hh1] at hmp ⊢
      have hx1 : Ext H h1 := by rw [hh1]; exact fun j hj => (List.getElem?_set_ne (by omega)).trans ((get_ext (by omega)).trans (hx j hj))
      have hl1 : h1.length = hp.length + 1 := by rw [hh1]; simp
      have hbd : h1[hp.length]? = some (⟨.cells #[str ds[i].name, int ds[i].kind, int ds[i].code, str ds[i].text, .slice a1 ds[i].action.length z1, .slice a2 ds[i].links.length z2] 55 (0, 0), true, true⟩ : Blk) := by rw [hh1, List.getElem?_set_ne (by omega)]; simp
      simp +contextual (dsimp := false) [hbd, wrap_succ (show i < 9223372036854775807 by omega)]
      have hG : ∀ j ∈ G2, j < H.length := fun j hj => Rp.lt hs j (E.sub j (by rw [hFi]; simp [hj]))
      have hlk : ∀ h : Heap, Ext H h → LnksR own h ds[i].links [.slice a2 ds[i].links.length z2] G2 := fun h he => Rp.fr hc2 fun j hj => (he j (hG j hj)).trans (hx j (hG j hj)).symm
      refine LoopA.up (σ := Nat × Heap × List (List UInt8)) [3, 13, 14, 15, 23, 24, 25] (fun i => [(25, int i.1)]) (fun i => i.2.1)
        (fun x => x.1 ≤ ds[i].links.length ∧ Ext H x.2.1 ∧ H.length + 2 ≤ x.2.1.length ∧ MapR kS x.2.1 (H.length + 1) (vS x.2.2) ∧ x.2.2.Nodup ∧ (∀ y, y ∈ x.2.2 ↔ y ∈ allNames (ds.take i) ++ ds[i].name :: (ds[i].links.take x.1).map (·.name)) ∧ ∀ y ∈ x.2.2, okS y) (fun x => ds[i].links.length - x.1) (0, h1, if ds[i].name ∈ l then l else l ++ [ds[i].name]) rfl ⟨by simp, hx1, by dsimp only; omega, hmp, nodup_put hnd, fun y => by show y ∈ (if ds[i].name ∈ l then l else l ++ [ds[i].name]) ↔ _; rw [mem_put, hmem]; simp, fun y hy => ?_⟩ ?_
      · rcases mem_put.1 hy with hy | rfl
        · exact hks y hy
        · exact hkk.1
      rintro ⟨k, h2, l2⟩ ⟨hk2, hx2, hle2, hm2, hnd2, hmem2, hks2⟩
      dsimp only at hk2 hx2 hle2 hm2 hnd2 hmem2 hks2
      simp +contextual (dsimp := false)
      refine ifA_dec (fun h4 => ?_) (fun h4 => ?_)
      · obtain ⟨id', o', c', e', f', ow', cs', Fi', E'⟩ := SlR.get (hlk h2 hx2) k h4
        obtain ⟨rfl, rfl, hok'⟩ := E'.rep
        have hm4 : ∀ T : Heap, MapR kS (h2 ++ T) (H.length + 1) (vS l2) := fun T => hm2.fr (get_ext hm2.lt)
        simp +contextual (dsimp := false) [E'.idx, E'.goB, E'.le, E'.lt, E'.ext, Lnk.c, wrap_succ (show k < 9223372036854775807 by omega)]
        refine UpdK.map (a := ds[i].links[k].name) keySB (hm4 _) rfl ?_
        intro es2 cl2 hmp2
        rw [putP_vS] at hmp2
        simp +contextual (dsimp := false) [wrap_succ (show k < 9223372036854775807 by omega)]
        refine LoopN.of (k + 1, _, if ds[i].links[k].name ∈ l2 then l2 else l2 ++ [ds[i].links[k].name]) rfl ⟨h4, fun j hj => (List.getElem?_set_ne (by omega)).trans ((get_ext (by omega)).trans (hx2 j hj)), by simp; omega, hmp2, nodup_put hnd2, fun y => ?_, fun y hy => ?_⟩ (by dsimp only; omega)
        · dsimp only
          rw [mem_put, hmem2, lnkNames_s h4]
          simp [or_assoc]
        · rcases mem_put.1 hy with hy | rfl
          · exact hks2 y hy
          · exact hok'.1
      · rw [List.take_of_length_le (show ds[i].links.length ≤ k by omega)] at hmem2
        simp +contextual (dsimp := false) [wrap_succ (show i < 9223372036854775807 by omega)]
        refine LoopN.of (i + 1, h2, l2) rfl ⟨h3, hx2, hle2, hm2, hnd2, fun y => ?_, hks2⟩ (by dsimp only; omega)
        dsimp only
        rw [hmem2, allNames_s h3]
    · rw [List.take_of_length_le (show ds.length ≤ i by omega)] at hmem
      have hl80 : l.length ≤ 1048576 := by
        have h1 := nodup_sub_len l (allNames ds) hnd fun y hy => (hmem y).1 hy
        have h2 := allNames_len hok
        omega
      refine CallK.of ⟨_, Try.func28, rfl, rfl⟩ (sorted_ac hm hks hl80) ?_
      rintro v S' ⟨o, F, hp1, he1, hv1, hf1⟩
      have e9 := sort_setOf (xs := allNames ds) hnd hmem hp1
      rw [e9] at hv1
      obtain ⟨a3, z3, rfl⟩ := hv1.form
      simp +contextual (dsimp := false)
      exact ⟨hx.trans he1, F, hv1, hf1.weak (by omega)⟩
theorem specNames_ac {own : Bool} {ds : List Deed} {sd : Value} {FD : List Nat} {H : Heap} (hs : DeedsR own H ds [sd] FD) : AC Try.prog ng 14 [.agg #[sd]] H fun v S' => ∃ F', Ext H S' ∧ StrsR true S' (namesOf ds) [v] F' ∧ Fresh H.length F' := by
  obtain ⟨ad, zd, rfl⟩ := hs.form
  have hb := hs.bound
  refine AC.go [] Try.func14 rfl Try.ntmps14 rfl ⟨mixed, by kernel_rfl⟩ ?_
  simp +contextual (dsimp := false)
  refine CallK.fl ⟨_, Try.func23, rfl, rfl⟩ (l3Ok_ac (Rp.ext hs (Ext.app _ _))) ?_
  unfold namesOf
  cases hok : accOk ds with
  | false =>
    simp +contextual (dsimp := false)
    exact ⟨_, SlR.mt (R := strR) (e := 9) (f := (0, 0)) (j := H.length + 1) (by simp), Fresh.one (by omega)⟩
  | true =>
    simp +contextual (dsimp := false)
    have hlen := accOk_len hok
    have hpart := allNames_part hok
    obtain ⟨H0, hH0⟩ : ∃ H0, H0 = H ++ [(⟨.cells #[.slice ad ds.length zd] 41 (0, 0), true, true⟩ : Blk), ⟨.cells #[] 9 (0, 0), true, true⟩] := ⟨_, rfl⟩
    have hx0 : Ext H H0 := by rw [hH0]; exact Ext.app _ _
    have hl0 : H0.length = H.length + 2 := by rw [hH0]; simp
    have hb0 : H0[H.length]? = some (⟨.cells #[.slice ad ds.length zd] 41 (0, 0), true, true⟩ : Blk) := by rw [hH0]; simp
    have hr0 : StrsR true H0 (setOf (allNames (ds.take 0))) [.slice (some ⟨H.length + 1, 0, none⟩) 0 1] [H.length + 1] := SlR.mt (R := strR) (e := 9) (f := (0, 0)) (by rw [hH0]; simp)
    rw [← hH0]
    refine LoopA.up (σ := Nat × Heap × Value × List Nat) [1, 3, 4] (fun i => [(3, i.2.2.1), (4, int i.1)]) (fun i => i.2.1)
      (fun x => x.1 ≤ ds.length ∧ Ext H0 x.2.1 ∧ StrsR true x.2.1 (setOf (allNames (ds.take x.1))) [x.2.2.1] x.2.2.2 ∧ Fresh (H.length + 1) x.2.2.2) (fun i => ds.length - i.1) (0, H0, _, _) rfl ⟨by simp, Ext.refl _, hr0, Fresh.one (Nat.le_refl _)⟩ ?_
    rintro ⟨i, hp, sv, F⟩ ⟨hi, hx, hr, hf⟩
    dsimp only at hi hx hr hf
    have hle := hx.le
    have hbp : hp[H.length]? = _ := (hx _ (by omega)).trans hb0
    simp +contextual (dsimp := false) [hbp]
    refine ifA_dec (fun h3 => ?_) (fun h3 => ?_)
    · have hdi : ∀ h : Heap, Ext H0 h → ∃ id o c e f ow cs Fi, Elt (DeedR own) 6 own h ds (.slice ad ds.length zd) FD i ds[i] id o c e f ow cs Fi := fun h he => SlR.get (Rp.ext hs (hx0.trans he)) i h3
      obtain ⟨id, o, c, e, f, ow, cs, Fi, E⟩ := hdi hp hx
      obtain ⟨hkk, s1, s2, G1, G2, rfl, hFi, hc1, hc2⟩ := E.rep
      obtain ⟨a1, z1, rfl⟩ := hc1.form
      obtain ⟨a2, z2, rfl⟩ := hc2.form
      have hsl := Nat.le_trans (setOf_len (allNames (ds.take i))) (show _ ≤ 80400 by have := hpart i h3 0; simp at this; omega)
      have hll := hc2.bound
      simp +contextual (dsimp := false) [hbp, E.idx, E.goB, E.le, E.lt, E.cell0, E.cell, E.ext, wrap_succ (show i < 9223372036854775807 by omega)]
      refine CallK.of ⟨_, Try.func24, rfl, rfl⟩ (l5Put_ac (base := H.length + 1) hr hf (by omega) hkk.1 (by omega)) ?_
      rintro v S' ⟨F', he', hv', hf'⟩
      rw [← setOf_snoc] at hv'
      have hx' := hx.trans he'
      simp +contextual (dsimp := false) [wrap_succ (show i < 9223372036854775807 by omega)]
      clear E hc1 hc2 hFi
      refine LoopA.up (σ := Nat × Heap × Value × List Nat) [1, 3, 4, 5] (fun i => [(3, i.2.2.1), (5, int i.1)]) (fun i => i.2.1)
        (fun x => x.1 ≤ ds[i].links.length ∧ Ext H0 x.2.1 ∧ StrsR true x.2.1 (setOf (allNames (ds.take i) ++ ds[i].name :: (ds[i].links.take x.1).map (·.name))) [x.2.2.1] x.2.2.2 ∧ Fresh (H.length + 1) x.2.2.2) (fun x => ds[i].links.length - x.1) (0, S', _, _) rfl ⟨by simp, hx', hv', hf'⟩ ?_
      rintro ⟨k, h2, sv2, F2⟩ ⟨hk2, hx2, hr2, hf2⟩
      dsimp only at hk2 hx2 hr2 hf2
      have hle2 := hx2.le
      have hbp2 : h2[H.length]? = _ := (hx2 _ (by omega)).trans hb0
      obtain ⟨id, o, c, e, f, ow, cs, Fi, E⟩ := hdi h2 hx2
      obtain ⟨_, s1', s2', G1', G2', rfl, hFi, hc1, hc2⟩ := E.rep
      obtain ⟨a1', z1', rfl⟩ := hc1.form
      obtain ⟨a2', z2', rfl⟩ := hc2.form
      simp +contextual (dsimp := false) [hbp2, E.idx, E.goB, E.le, E.lt, E.cell0, E.cell, E.ext]
      refine ifA_dec (fun h4 => ?_) (fun h4 => ?_)
      · obtain ⟨id', o', c', e', f', ow', cs', Fi', E'⟩ := SlR.get hc2 k h4
        obtain ⟨rfl, rfl, hok'⟩ := E'.rep
        have hsl2 := Nat.le_trans (setOf_len (allNames (ds.take i) ++ ds[i].name :: (ds[i].links.take k).map (·.name))) (hpart i h3 k)
        simp +contextual (dsimp := false) [hbp2, E.idx, E.goB, E.le, E.lt, E.cell0, E.cell, E.ext, E'.idx, E'.goB, E'.le, E'.lt, E'.cell0, E'.cell, Lnk.c, wrap_succ (show k < 9223372036854775807 by omega)]
        refine CallK.of ⟨_, Try.func24, rfl, rfl⟩ (l5Put_ac (base := H.length + 1) hr2 hf2 (by omega) hok'.1 (by omega)) ?_
        rintro v S3 ⟨F3, he3, hv3, hf3⟩
        simp +contextual (dsimp := false) [wrap_succ (show k < 9223372036854775807 by omega)]
        refine LoopN.of (k + 1, S3, _, F3) rfl ⟨h4, hx2.trans he3, ?_, hf3⟩ (by dsimp only; omega)
        dsimp only
        rw [lnkNames_s h4, ← List.cons_append, ← List.append_assoc, setOf_snoc]
        exact hv3
      · rw [List.take_of_length_le (show ds[i].links.length ≤ k by omega), ← allNames_s h3] at hr2
        simp +contextual (dsimp := false) [wrap_succ (show i < 9223372036854775807 by omega)]
        exact LoopN.of (i + 1, h2, sv2, F2) rfl ⟨h3, hx2, hr2, hf2⟩ (by dsimp only; omega)
    · rw [List.take_of_length_le (show ds.length ≤ i by omega)] at hr
      exact ⟨hx0.trans hx, F, hr, hf.weak (by omega)⟩
end Go.Proofs.Ytephpieeibcihaa

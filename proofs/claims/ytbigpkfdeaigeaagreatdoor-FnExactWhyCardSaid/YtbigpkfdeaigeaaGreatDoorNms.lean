/- Names, both. No condition. -/
import Derived.Test.YtbigpkfdeaigeaaGreatDoorSrc
set_option linter.unusedSimpArgs false
set_option linter.unusedVariables false
namespace Go.Proofs.YtbigpkfdeaigeaaGreatDoor
open Go Go.Am Go.Proofs
set_option maxRecDepth 20000
variable {ng : Nat}
theorem allNames_s {ds : List Deed} {i : Nat} (h : i < ds.length) : allNames (ds.take (i + 1)) = allNames (ds.take i) ++ ds[i].name :: ds[i].links.map (·.name) := by
  unfold allNames
  rw [List.take_succ_eq_append_getElem h, List.flatMap_append]
  simp
theorem lnkNames_s {ls : List Lnk} {i : Nat} (h : i < ls.length) : (ls.take (i + 1)).map (·.name) = (ls.take i).map (·.name) ++ [ls[i].name] := by
  rw [List.take_succ_eq_append_getElem h, List.map_append]
  rfl
theorem allNames_part {ds : List Deed} (h : accOk ds = true) (i : Nat) (hi : i < ds.length) (k : Nat) : (allNames (ds.take i) ++ ds[i].name :: (ds[i].links.take k).map (·.name)).length ≤ 80400 := by
  have h1 := allNames_len h
  have h2 : (allNames (ds.take (i + 1)) ++ allNames (ds.drop (i + 1))).length ≤ 201 * 400 := by
    have : allNames (ds.take (i + 1)) ++ allNames (ds.drop (i + 1)) = allNames ds := by
      unfold allNames
      rw [← List.flatMap_append, List.take_append_drop]
    rw [this]
    exact h1
  rw [allNames_s hi] at h2
  simp only [List.length_append, List.length_cons, List.length_map, List.length_take] at h2 ⊢
  omega
theorem specNames_ac {own : Bool} {ds : List Deed} {sd : Value} {FD : List Nat} {H : Heap} (hs : DeedsR own H ds [sd] FD) : AC Tryz.prog ng 38 [.agg #[sd]] H fun v S' => ∃ F', Ext H S' ∧ StrsR true S' (namesOf ds) [v] F' ∧ Fresh H.length F' := by
  obtain ⟨ad, zd, rfl⟩ := hs.form
  have hb := hs.bound
  refine AC.go [] Tryz.func38 rfl Tryz.ntmps38 rfl ⟨mixed, by kernel_rfl⟩ ?_
  simp +contextual (dsimp := false)
  refine CallK.fl ⟨_, Tryz.func44, rfl, rfl⟩ (l3Ok_ac (Rp.ext hs (Ext.app _ _))) ?_
  unfold namesOf
  cases hok : accOk ds with
  | false =>
    simp +contextual (dsimp := false)
    exact ⟨_, SlR.mt (R := strR) (e := 9) (f := (0, 0)) (j := H.length + 1) (by simp), Fresh.one (by omega)⟩
  | true =>
    simp +contextual (dsimp := false)
    have hlen := accOk_len hok
    have hpart := allNames_part hok
    obtain ⟨H0, hH0⟩ : ∃ H0, H0 = H ++ [(⟨.cells #[.slice ad ds.length zd] 30 (0, 0), true, true⟩ : Blk), ⟨.cells #[] 9 (0, 0), true, true⟩] := ⟨_, rfl⟩
    have hx0 : Ext H H0 := by rw [hH0]; exact Ext.app _ _
    have hl0 : H0.length = H.length + 2 := by rw [hH0]; simp
    have hb0 : H0[H.length]? = some (⟨.cells #[.slice ad ds.length zd] 30 (0, 0), true, true⟩ : Blk) := by rw [hH0]; simp
    have hr0 : StrsR true H0 (setOf (allNames (ds.take 0))) [.slice (some ⟨H.length + 1, 0, none⟩) 0 1] [H.length + 1] := SlR.mt (R := strR) (e := 9) (f := (0, 0)) (by rw [hH0]; simp)
    rw [← hH0]
    refine LoopA.up (σ := Nat × Heap × Value × List Nat) [1, 3, 4] (fun i => [(3, i.2.2.1), (4, int i.1)]) (fun i => i.2.1)
      (fun x => x.1 ≤ ds.length ∧ Ext H0 x.2.1 ∧ StrsR true x.2.1 (setOf (allNames (ds.take x.1))) [x.2.2.1] x.2.2.2 ∧ Fresh (H.length + 1) x.2.2.2) (fun i => ds.length - i.1) (0, H0, _, _) rfl ⟨by simp, Ext.refl _, hr0, Fresh.one (Nat.le_refl _)⟩ ?_
    rintro ⟨i, hp, sv, F⟩ ⟨hi, hx, hr, hf⟩
    dsimp only at hi hx hr hf
    have hle := hx.le
    have hbp : hp[H.length]? = _ := (hx _ (by omega)).trans hb0
    simp +contextual (dsimp := false) [hbp]
    refine ifA_dec (fun h3 => ?_) (fun h3 => ?_)
    · have hdi : ∀ h : Heap, Ext H0 h → ∃ id o c e f ow cs Fi, Elt (DeedR own) 6 own h ds (.slice ad ds.length zd) FD i ds[i] id o c e f ow cs Fi := fun h he => SlR.get (Rp.ext hs (hx0.trans he)) i h3
      obtain ⟨id, o, c, e, f, ow, cs, Fi, E⟩ := hdi hp hx
      obtain ⟨hkk, s1, s2, G1, G2, rfl, hFi, hc1, hc2⟩ := E.rep
      obtain ⟨a1, z1, rfl⟩ := hc1.form
      obtain ⟨a2, z2, rfl⟩ := hc2.form
      have hsl := Nat.le_trans (setOf_len (allNames (ds.take i))) (show _ ≤ 80400 by have := hpart i h3 0; simp at this; omega)
      have hll := hc2.bound
      simp +contextual (dsimp := false) [hbp, E.idx, E.goB, E.le, E.lt, E.cell0, E.cell, E.ext, wrap_succ (show i < 9223372036854775807 by omega)]
      refine CallK.of ⟨_, Tryz.func47, rfl, rfl⟩ (l5Put_ac (base := H.length + 1) hr hf (by omega) hkk.1 (by omega)) ?_
      rintro v S' ⟨F', he', hv', hf'⟩
      rw [← setOf_snoc] at hv'
      have hx' := hx.trans he'
      simp +contextual (dsimp := false) [wrap_succ (show i < 9223372036854775807 by omega)]
      clear E hc1 hc2 hFi
      refine LoopA.up (σ := Nat × Heap × Value × List Nat) [1, 3, 4, 5] (fun i => [(3, i.2.2.1), (5, int i.1)]) (fun i => i.2.1)
        (fun x => x.1 ≤ ds[i].links.length ∧ Ext H0 x.2.1 ∧ StrsR true x.2.1 (setOf (allNames (ds.take i) ++ ds[i].name :: (ds[i].links.take x.1).map (·.name))) [x.2.2.1] x.2.2.2 ∧ Fresh (H.length + 1) x.2.2.2) (fun x => ds[i].links.length - x.1) (0, S', _, _) rfl ⟨by simp, hx', hv', hf'⟩ ?_
      rintro ⟨k, h2, sv2, F2⟩ ⟨hk2, hx2, hr2, hf2⟩
      dsimp only at hk2 hx2 hr2 hf2
      have hle2 := hx2.le
      have hbp2 : h2[H.length]? = _ := (hx2 _ (by omega)).trans hb0
      obtain ⟨id, o, c, e, f, ow, cs, Fi, E⟩ := hdi h2 hx2
      obtain ⟨_, s1', s2', G1', G2', rfl, hFi, hc1, hc2⟩ := E.rep
      obtain ⟨a1', z1', rfl⟩ := hc1.form
      obtain ⟨a2', z2', rfl⟩ := hc2.form
      simp +contextual (dsimp := false) [hbp2, E.idx, E.goB, E.le, E.lt, E.cell0, E.cell, E.ext]
      refine ifA_dec (fun h4 => ?_) (fun h4 => ?_)
      · obtain ⟨id', o', c', e', f', ow', cs', Fi', E'⟩ := SlR.get hc2 k h4
        obtain ⟨rfl, rfl, hok'⟩ := E'.rep
        have hsl2 := Nat.le_trans (setOf_len (allNames (ds.take i) ++ ds[i].name :: (ds[i].links.take k).map (·.name))) (hpart i h3 k)
        simp +contextual (dsimp := false) [hbp2, E.idx, E.goB, E.le, E.lt, E.cell0, E.cell, E.ext, E'.idx, E'.goB, E'.le, E'.lt, E'.cell0, E'.cell, Lnk.c, wrap_succ (show k < 9223372036854775807 by omega)]
        refine CallK.of ⟨_, Tryz.func47, rfl, rfl⟩ (l5Put_ac (base := H.length + 1) hr2 hf2 (by omega) hok'.1 (by omega)) ?_
        rintro v S3 ⟨F3, he3, hv3, hf3⟩
        simp +contextual (dsimp := false) [wrap_succ (show k < 9223372036854775807 by omega)]
        refine LoopN.of (k + 1, S3, _, F3) rfl ⟨h4, hx2.trans he3, ?_, hf3⟩ (by dsimp only; omega)
        dsimp only
        rw [lnkNames_s h4, ← List.cons_append, ← List.append_assoc, setOf_snoc]
        exact hv3
      · rw [List.take_of_length_le (show ds[i].links.length ≤ k by omega), ← allNames_s h3] at hr2
        simp +contextual (dsimp := false) [wrap_succ (show i < 9223372036854775807 by omega)]
        exact LoopN.of (i + 1, h2, sv2, F2) rfl ⟨h3, hx2, hr2, hf2⟩ (by dsimp only; omega)
    · rw [List.take_of_length_le (show ds.length ≤ i by omega)] at hr
      exact ⟨hx0.trans hx, F, hr, hf.weak (by omega)⟩
end Go.Proofs.YtbigpkfdeaigeaaGreatDoor

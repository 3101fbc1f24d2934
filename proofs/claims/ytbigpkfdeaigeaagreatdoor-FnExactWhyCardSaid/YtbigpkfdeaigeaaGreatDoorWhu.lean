import Derived.Test.YtbigpkfdeaigeaaGreatDoorWhy
import Derived.Test.YtbigpkfdeaigeaaGreatDoorNms
import Derived.Test.YtbigpkfdeaigeaaGreatDoorSam
/- What an account tells of a name, and whether two tell alike: spec.l5Tells, l5There, l5Agree. No condition. -/
set_option linter.unusedSimpArgs false
set_option linter.unusedVariables false
namespace Go.Proofs.YtbigpkfdeaigeaaGreatDoor
open Go Go.Am Go.Proofs
set_option maxRecDepth 20000
variable {ng : Nat}
/-- What is told, as it lies: the action's slice is a value. -/
structure Tld where
  tel : Tel
  sl : Value
def Tld.ok (x : Tld) : Prop := i64 x.tel.kind ∧ okS x.tel.text ∧ ones [x.sl]
def TldR : RepT Tld := fun H x c F => Tld.ok x ∧ c = [.int .i64 x.tel.kind, .string ⟨⟨x.tel.text⟩⟩, x.sl] ∧ F = []
instance : Rp TldR 3 where
  fr := by
    rintro H H' x c F ⟨hk, rfl, rfl⟩ hf
    exact ⟨hk, rfl, rfl⟩
  lt := by
    rintro H x c F ⟨hk, rfl, rfl⟩ i hi
    cases hi
  one := by
    rintro H x c F ⟨hk, rfl, rfl⟩
    have o1 := hk.2.2
    simp [ones, Value.oneCell'] at o1 ⊢
    exact o1
  len := by
    rintro H x c F ⟨hk, rfl, rfl⟩
    rfl
abbrev TldsR : RepT (List Tld) := SlR true 3 TldR
theorem l5Tells_ac {own : Bool} {ds : List Deed} {sd : Value} {FD : List Nat} {H : Heap} {nm : List UInt8} (hs : DeedsR own H ds [sd] FD) (hn : okS nm) (hok : accOk ds = true) : AC Tryz.prog ng 45 [.agg #[sd], str nm] H fun v S' => ∃ F' xs, Ext H S' ∧ TldsR S' xs [v] F' ∧ Fresh H.length F' ∧ xs.map (·.tel) = tels nm ds ∧ ∀ x ∈ xs, ∃ F, CodeR own H x.tel.act [x.sl] F := by
  obtain ⟨ad, zd, rfl⟩ := hs.form
  have hb := hs.bound
  refine AC.go [] Tryz.func45 rfl Tryz.ntmps45 rfl ⟨mixed, by kernel_rfl⟩ ?_
  simp +contextual (dsimp := false)
  have hlen := accOk_len hok
  have hpart := allNames_part hok
  obtain ⟨H0, hH0⟩ : ∃ H0, H0 = H ++ [(⟨.cells #[.slice ad ds.length zd] 30 (0, 0), true, true⟩ : Blk), ⟨.cells #[] 87 (0, 0), true, true⟩] := ⟨_, rfl⟩
  have hx0 : Ext H H0 := by rw [hH0]; exact Ext.app _ _
  have hl0 : H0.length = H.length + 2 := by rw [hH0]; simp
  have hb0 : H0[H.length]? = some (⟨.cells #[.slice ad ds.length zd] 30 (0, 0), true, true⟩ : Blk) := by rw [hH0]; simp
  have hr0 : TldsR H0 [] [.slice (some ⟨H.length + 1, 0, none⟩) 0 3] [H.length + 1] := SlR.mt (R := TldR) (e := 87) (f := (0, 0)) (by rw [hH0]; simp)
  rw [← hH0]
  refine LoopA.up (σ := Nat × Heap × Value × List Nat × List Tld) [1, 2, 5, 6] (fun i => [(5, i.2.2.1), (6, int i.1)]) (fun i => i.2.1)
    (fun x => x.1 ≤ ds.length ∧ (Ext H x.2.1 ∧ H.length + 2 ≤ x.2.1.length ∧ x.2.1[H.length]? = H0[H.length]?) ∧ TldsR x.2.1 x.2.2.2.2 [x.2.2.1] x.2.2.2.1 ∧ Fresh (H.length + 1) x.2.2.2.1 ∧ x.2.2.2.2.map (·.tel) = tels nm (ds.take x.1) ∧ ∀ t ∈ x.2.2.2.2, ∃ F, CodeR own H t.tel.act [t.sl] F) (fun i => ds.length - i.1) (0, H0, _, _, []) rfl ⟨by simp, ⟨hx0, by dsimp only; omega, rfl⟩, hr0, Fresh.one (Nat.le_refl _), by simp [tels], by simp⟩ ?_
  rintro ⟨i, hp, sv, F, xs⟩ ⟨hi, ⟨hx, hle, hbp⟩, hr, hf, hm, hg⟩
  dsimp only at hi hx hle hbp hr hf hm hg
  rw [hb0] at hbp
  simp +contextual (dsimp := false) [hbp]
  refine ifA_dec (fun h3 => ?_) (fun h3 => ?_)
  · obtain ⟨id, o, c, e, f, ow, cs, Fi, E⟩ := SlR.get (Rp.ext hs hx) i h3
    obtain ⟨hkk, s1, s2, G1, G2, rfl, hFi, hc1, hc2⟩ := E.rep
    obtain ⟨a1, z1, rfl⟩ := hc1.form
    obtain ⟨a2, z2, rfl⟩ := hc2.form
    have hll := hc2.bound
    have hG1 : ∀ j ∈ G1, j < H.length := fun j hj => Rp.lt hs j (E.sub j (by rw [hFi]; simp [hj]))
    have hG2 : ∀ j ∈ G2, j < H.length := fun j hj => Rp.lt hs j (E.sub j (by rw [hFi]; simp [hj]))
    have hact : CodeR own H ds[i].action [.slice a1 ds[i].action.length z1] G1 := Rp.fr hc1 fun j hj => (hx j (hG1 j hj)).symm
    have hlk : ∀ h : Heap, Ext H h → LnksR own h ds[i].links [.slice a2 ds[i].links.length z2] G2 := fun h he => Rp.fr hc2 fun j hj => (he j (hG2 j hj)).trans (hx j (hG2 j hj)).symm
    have hFl : ∀ j ∈ F, j < hp.length := fun j hj => Rp.lt hr j hj
    have hxl : xs.length + ds[i].links.length ≤ 80400 := by
      have h1 := tels_len nm (ds.take i)
      have h2 := hpart i h3 ds[i].links.length
      have h4 := congrArg List.length hm
      simp only [List.length_map] at h4
      simp at h2
      omega
    simp +contextual (dsimp := false) [hbp, E.idx, E.goB, E.le, E.lt, E.cell0, E.cell, E.ext, wrap_succ (show i < 9223372036854775807 by omega), str_eq]
    by_cases hnm : ds[i].name = nm
    · by_cases hk1 : ds[i].kind = 1
      · simp +contextual (dsimp := false) [hnm, hk1]
        obtain ⟨dn, dk, hbd0⟩ : ∃ dn dk, (hp ++ [(⟨.cells #[str nm, int 1, int ds[i].code, str ds[i].text, .slice a1 ds[i].action.length z1, .slice a2 ds[i].links.length z2] 57 (0, 0), true, true⟩ : Blk), ⟨.cells #[int 1, str ds[i].text, .slice a1 ds[i].action.length z1] 87 (0, 0), true, true⟩, ⟨.cells #[int 1, str ds[i].text, .slice a1 ds[i].action.length z1] 87 (0, 0), true, true⟩])[hp.length]? = some (⟨.cells #[dn, dk, int ds[i].code, str ds[i].text, .slice a1 ds[i].action.length z1, .slice a2 ds[i].links.length z2] 57 (0, 0), true, true⟩ : Blk) := ⟨str nm, int 1, by simp⟩
        refine AppK.one (R := TldR) (ex := 87) (fx := (0, 0)) (ox := true) (base := H.length + 1) (x := ⟨⟨1, ds[i].text, ds[i].action⟩, .slice a1 ds[i].action.length z1⟩) (cx := [int 1, str ds[i].text, .slice a1 ds[i].action.length z1]) (Fx := []) slt83 und83 (Rp.ext hr (Ext.app _ _)) hf (by simp) ⟨⟨by simp [i64], hkk.2.2.2, Rp.one hact⟩, rfl, rfl⟩ (Fresh.nil _) (by simp) (by simp; omega) (by omega) (by decide) ?_
        intro sv1 h1 F1 q6 q7 r3 r4 r5
        simp only [List.length_append, List.length_cons, List.length_nil] at r3 r4 r5
        have hF1 : ∀ j, j < hp.length + 3 → j ∉ F → j ∉ F1 := fun j hj hn hm => by
          rcases r5 j hm with h | h | h
          · exact hn h
          · cases h
          · omega
        have e3 : ∀ j, j < hp.length → j ∉ F → h1[j]? = hp[j]? := fun j hj hn => (r4 j (by omega) hn).trans (get_ext hj)
        have hno : hp.length ∉ F := fun h => absurd (hFl _ h) (by omega)
        have hbd1 := (r4 hp.length (by omega) hno).trans hbd0
        obtain ⟨ys, hys⟩ : ∃ ys, ys = xs ++ [(⟨⟨1, ds[i].text, ds[i].action⟩, .slice a1 ds[i].action.length z1⟩ : Tld)] := ⟨_, rfl⟩
        rw [← hys] at q6
        have q1 : Ext H h1 := fun j hj => (e3 j (by omega) (fun h => absurd (hf.1 _ h) (by omega))).trans (hx j hj)
        have q2 : H.length + 2 ≤ h1.length := by omega
        have q3 : h1[H.length]? = H0[H.length]? := (e3 _ (by omega) (fun h => absurd (hf.1 _ h) (by omega))).trans (hbp.trans hb0.symm)
        have q4 : hp.length < h1.length := by omega
        have q5 : hp.length ∉ F1 := hF1 _ (by omega) hno
        have q8 : ys.map (·.tel) = tels nm (ds.take i) ++ telD nm ds[i] := by rw [hys, List.map_append, hm, telD, if_pos hnm]; simp [hk1]
        have q9 : ∀ t ∈ ys, ∃ F, CodeR own H t.tel.act [t.sl] F := by
          intro t ht
          rw [hys] at ht
          rcases List.mem_append.1 ht with ht | ht
          · exact hg t ht
          · simp only [List.mem_singleton] at ht
            subst ht
            exact ⟨_, hact⟩
        simp +contextual (dsimp := false)
        refine LoopA.up (σ := Nat × Heap × Value × List Nat × List Tld) [1, 2, 5, 6, 7, 9] (fun i => [(5, i.2.2.1), (9, int i.1)]) (fun i => i.2.1)
          (fun x => x.1 ≤ ds[i].links.length ∧ (Ext H x.2.1 ∧ H.length + 2 ≤ x.2.1.length ∧ x.2.1[H.length]? = H0[H.length]? ∧ hp.length < x.2.1.length ∧ x.2.1[hp.length]? = h1[hp.length]? ∧ hp.length ∉ x.2.2.2.1) ∧ TldsR x.2.1 x.2.2.2.2 [x.2.2.1] x.2.2.2.1 ∧ Fresh (H.length + 1) x.2.2.2.1 ∧ x.2.2.2.2.map (·.tel) = tels nm (ds.take i) ++ (telD nm ds[i] ++ (ds[i].links.take x.1).flatMap (telL nm)) ∧ ∀ t ∈ x.2.2.2.2, ∃ F, CodeR own H t.tel.act [t.sl] F) (fun x => ds[i].links.length - x.1) (0, h1, sv1, F1, ys) rfl ⟨by simp, ⟨q1, q2, q3, q4, rfl, q5⟩, q6, q7, by dsimp only; rw [q8]; simp, q9⟩ ?_
        clear q1 q2 q3 q5 q6 q7 q8 q9
        rintro ⟨k, h2, sv2, F2, zs⟩ ⟨hk2, ⟨p1, p2, p3, p4, p5, p6⟩, p7, p8, p9, p10⟩
        dsimp only at hk2 p1 p2 p3 p4 p5 p6 p7 p8 p9 p10
        rw [hbd1] at p5
        rw [hb0] at p3
        simp +contextual (dsimp := false) [p5]
        refine ifA_dec (fun h4 => ?_) (fun h4 => ?_)
        · obtain ⟨id', o', c', e', f', ow', cs', Fi', E'⟩ := SlR.get (hlk h2 p1) k h4
          obtain ⟨rfl, rfl, hok'⟩ := E'.rep
          have hzl : zs.length ≤ 80401 := by
            have e4 := congrArg List.length p9
            have e5 := telD_len nm ds[i]
            have e6 := flatL_len nm (ds[i].links.take k)
            have e7 := congrArg List.length hm
            simp only [List.length_map, List.length_append, List.length_take] at e4 e6 e7
            omega
          have hkw := wrap_succ (show k < 9223372036854775807 by omega)
          have p5T : ∀ T : Heap, (h2 ++ T)[hp.length]? = some (⟨.cells #[dn, dk, int ds[i].code, str ds[i].text, .slice a1 ds[i].action.length z1, .slice a2 ds[i].links.length z2] 57 (0, 0), true, true⟩ : Blk) := fun T => (get_ext p4).trans p5
          have hF2l : ∀ j ∈ F2, j < h2.length := fun j hj => Rp.lt p7 j hj
          simp +contextual (dsimp := false) [p5, p5T, E'.ext, E'.lt, E'.idx, E'.goB, E'.le, E'.lt, E'.cell0, E'.cell, Lnk.c, hkw, str_eq]
          by_cases hl1 : ds[i].links[k].name = nm ∧ ds[i].links[k].ask = false
          · obtain ⟨hl1, hl2⟩ := hl1
            cases hl3 : ds[i].links[k].has
            · simp +contextual (dsimp := false) [p5, p5T, E'.ext, E'.lt, E'.idx, E'.goB, E'.le, E'.lt, E'.cell0, E'.cell, Lnk.c, hkw, str_eq, hl1, hl2, hl3]
              refine AppK.one (R := TldR) (ex := 87) (fx := (0, 0)) (ox := true) (base := H.length + 1) (x := ⟨⟨5, [], []⟩, .slice none 0 0⟩) (cx := [int 5, str [], .slice none 0 0]) (Fx := []) slt83 und83 (Rp.ext p7 (Ext.app _ _)) p8 (by simp) ⟨⟨by simp [i64], by simp [okS], by simp [ones, Value.oneCell']⟩, rfl, rfl⟩ (Fresh.nil _) (by simp) (by simp; omega) (by omega) (by decide) ?_
              intro sv3 h5 F3 r1 r2 r3 r4 r5
              simp only [List.length_append, List.length_cons, List.length_nil] at r3 r4 r5
              have hF3 : ∀ j, j < h2.length → j ∉ F2 → j ∉ F3 := fun j hj hn hm => by
                rcases r5 j hm with h | h | h
                · exact hn h
                · cases h
                · omega
              have e3 : ∀ j, j < h2.length → j ∉ F2 → h5[j]? = h2[j]? := fun j hj hn => (r4 j (by omega) hn).trans (get_ext hj)
              simp +contextual (dsimp := false) [hkw]
              refine LoopN.of (k + 1, h5, sv3, F3, zs ++ [⟨⟨5, [], []⟩, .slice none 0 0⟩]) rfl ⟨h4, ⟨fun j hj => (e3 j (by omega) (fun h => absurd (p8.1 _ h) (by omega))).trans (p1 j hj), by dsimp only; omega, (e3 _ (by omega) (fun h => absurd (p8.1 _ h) (by omega))).trans (p3.trans hb0.symm), by dsimp only; omega, (e3 _ p4 p6).trans (p5.trans hbd1.symm), hF3 _ p4 p6⟩, r1, r2, ?_, ?_⟩ (by dsimp only; omega)
              · dsimp only
                rw [List.map_append, p9, telL_s h4]
                simp [telL, hl1, hl2, hl3]
              · intro t ht
                rcases List.mem_append.1 ht with ht | ht
                · exact p10 t ht
                · simp only [List.mem_singleton] at ht
                  subst ht
                  exact ⟨[], SlR.nil⟩
            · simp +contextual (dsimp := false) [p5, p5T, E'.ext, E'.lt, E'.idx, E'.goB, E'.le, E'.lt, E'.cell0, E'.cell, Lnk.c, hkw, str_eq, hl1, hl2, hl3]
              refine AppK.one (R := TldR) (ex := 87) (fx := (0, 0)) (ox := true) (base := H.length + 1) (x := ⟨⟨4, [], []⟩, .slice none 0 0⟩) (cx := [int 4, str [], .slice none 0 0]) (Fx := []) slt83 und83 (Rp.ext p7 (Ext.app _ _)) p8 (by simp) ⟨⟨by simp [i64], by simp [okS], by simp [ones, Value.oneCell']⟩, rfl, rfl⟩ (Fresh.nil _) (by simp) (by simp; omega) (by omega) (by decide) ?_
              intro sv3 h5 F3 r1 r2 r3 r4 r5
              simp only [List.length_append, List.length_cons, List.length_nil] at r3 r4 r5
              have hF3 : ∀ j, j < h2.length → j ∉ F2 → j ∉ F3 := fun j hj hn hm => by
                rcases r5 j hm with h | h | h
                · exact hn h
                · cases h
                · omega
              have e3 : ∀ j, j < h2.length → j ∉ F2 → h5[j]? = h2[j]? := fun j hj hn => (r4 j (by omega) hn).trans (get_ext hj)
              simp +contextual (dsimp := false) [hkw]
              refine LoopN.of (k + 1, h5, sv3, F3, zs ++ [⟨⟨4, [], []⟩, .slice none 0 0⟩]) rfl ⟨h4, ⟨fun j hj => (e3 j (by omega) (fun h => absurd (p8.1 _ h) (by omega))).trans (p1 j hj), by dsimp only; omega, (e3 _ (by omega) (fun h => absurd (p8.1 _ h) (by omega))).trans (p3.trans hb0.symm), by dsimp only; omega, (e3 _ p4 p6).trans (p5.trans hbd1.symm), hF3 _ p4 p6⟩, r1, r2, ?_, ?_⟩ (by dsimp only; omega)
              · dsimp only
                rw [List.map_append, p9, telL_s h4]
                simp [telL, hl1, hl2, hl3]
              · intro t ht
                rcases List.mem_append.1 ht with ht | ht
                · exact p10 t ht
                · simp only [List.mem_singleton] at ht
                  subst ht
                  exact ⟨[], SlR.nil⟩
          · by_cases hl2 : ds[i].links[k].name = nm
            · have hl3 : ds[i].links[k].ask = true := by
                cases h : ds[i].links[k].ask with
                | true => rfl
                | false => exact absurd ⟨hl2, h⟩ hl1
              simp +contextual (dsimp := false) [p5, p5T, E'.ext, E'.lt, E'.idx, E'.goB, E'.le, E'.lt, E'.cell0, E'.cell, Lnk.c, hkw, str_eq, hl2, hl3]
              refine LoopN.of (k + 1, h2, sv2, F2, zs) rfl ⟨h4, ⟨p1, p2, p3.trans hb0.symm, p4, p5.trans hbd1.symm, p6⟩, p7, p8, ?_, p10⟩ (by dsimp only; omega)
              dsimp only
              rw [p9, telL_s h4]
              simp [telL, hl2, hl3]
            · simp +contextual (dsimp := false) [hkw, hl2]
              refine LoopN.of (k + 1, h2, sv2, F2, zs) rfl ⟨h4, ⟨p1, p2, p3.trans hb0.symm, p4, p5.trans hbd1.symm, p6⟩, p7, p8, ?_, p10⟩ (by dsimp only; omega)
              dsimp only
              rw [p9, telL_s h4]
              simp [telL, hl2]
        · rw [List.take_of_length_le (show ds[i].links.length ≤ k by omega), ← tels_s h3] at p9
          simp +contextual (dsimp := false) [wrap_succ (show i < 9223372036854775807 by omega)]
          exact LoopN.of (i + 1, h2, sv2, F2, zs) rfl ⟨h3, ⟨p1, p2, p3.trans hb0.symm⟩, p7, p8, p9, p10⟩ (by dsimp only; omega)
      · simp +contextual (dsimp := false) [hnm, hk1]
        obtain ⟨dn, dk, hbd0⟩ : ∃ dn dk, (hp ++ [(⟨.cells #[str nm, int ds[i].kind, int ds[i].code, str ds[i].text, .slice a1 ds[i].action.length z1, .slice a2 ds[i].links.length z2] 57 (0, 0), true, true⟩ : Blk), ⟨.cells #[int ds[i].kind, str [], .slice a1 ds[i].action.length z1] 87 (0, 0), true, true⟩, ⟨.cells #[int ds[i].kind, str [], .slice a1 ds[i].action.length z1] 87 (0, 0), true, true⟩])[hp.length]? = some (⟨.cells #[dn, dk, int ds[i].code, str ds[i].text, .slice a1 ds[i].action.length z1, .slice a2 ds[i].links.length z2] 57 (0, 0), true, true⟩ : Blk) := ⟨str nm, int ds[i].kind, by simp⟩
        refine AppK.one (R := TldR) (ex := 87) (fx := (0, 0)) (ox := true) (base := H.length + 1) (x := ⟨⟨ds[i].kind, [], ds[i].action⟩, .slice a1 ds[i].action.length z1⟩) (cx := [int ds[i].kind, str [], .slice a1 ds[i].action.length z1]) (Fx := []) slt83 und83 (Rp.ext hr (Ext.app _ _)) hf (by simp) ⟨⟨hkk.2.1, by simp [okS], Rp.one hact⟩, rfl, rfl⟩ (Fresh.nil _) (by simp) (by simp; omega) (by omega) (by decide) ?_
        intro sv1 h1 F1 q6 q7 r3 r4 r5
        simp only [List.length_append, List.length_cons, List.length_nil] at r3 r4 r5
        have hF1 : ∀ j, j < hp.length + 3 → j ∉ F → j ∉ F1 := fun j hj hn hm => by
          rcases r5 j hm with h | h | h
          · exact hn h
          · cases h
          · omega
        have e3 : ∀ j, j < hp.length → j ∉ F → h1[j]? = hp[j]? := fun j hj hn => (r4 j (by omega) hn).trans (get_ext hj)
        have hno : hp.length ∉ F := fun h => absurd (hFl _ h) (by omega)
        have hbd1 := (r4 hp.length (by omega) hno).trans hbd0
        obtain ⟨ys, hys⟩ : ∃ ys, ys = xs ++ [(⟨⟨ds[i].kind, [], ds[i].action⟩, .slice a1 ds[i].action.length z1⟩ : Tld)] := ⟨_, rfl⟩
        rw [← hys] at q6
        have q1 : Ext H h1 := fun j hj => (e3 j (by omega) (fun h => absurd (hf.1 _ h) (by omega))).trans (hx j hj)
        have q2 : H.length + 2 ≤ h1.length := by omega
        have q3 : h1[H.length]? = H0[H.length]? := (e3 _ (by omega) (fun h => absurd (hf.1 _ h) (by omega))).trans (hbp.trans hb0.symm)
        have q4 : hp.length < h1.length := by omega
        have q5 : hp.length ∉ F1 := hF1 _ (by omega) hno
        have q8 : ys.map (·.tel) = tels nm (ds.take i) ++ telD nm ds[i] := by rw [hys, List.map_append, hm, telD, if_pos hnm]; simp [hk1]
        have q9 : ∀ t ∈ ys, ∃ F, CodeR own H t.tel.act [t.sl] F := by
          intro t ht
          rw [hys] at ht
          rcases List.mem_append.1 ht with ht | ht
          · exact hg t ht
          · simp only [List.mem_singleton] at ht
            subst ht
            exact ⟨_, hact⟩
        simp +contextual (dsimp := false)
        refine LoopA.up (σ := Nat × Heap × Value × List Nat × List Tld) [1, 2, 5, 6, 7, 9] (fun i => [(5, i.2.2.1), (9, int i.1)]) (fun i => i.2.1)
          (fun x => x.1 ≤ ds[i].links.length ∧ (Ext H x.2.1 ∧ H.length + 2 ≤ x.2.1.length ∧ x.2.1[H.length]? = H0[H.length]? ∧ hp.length < x.2.1.length ∧ x.2.1[hp.length]? = h1[hp.length]? ∧ hp.length ∉ x.2.2.2.1) ∧ TldsR x.2.1 x.2.2.2.2 [x.2.2.1] x.2.2.2.1 ∧ Fresh (H.length + 1) x.2.2.2.1 ∧ x.2.2.2.2.map (·.tel) = tels nm (ds.take i) ++ (telD nm ds[i] ++ (ds[i].links.take x.1).flatMap (telL nm)) ∧ ∀ t ∈ x.2.2.2.2, ∃ F, CodeR own H t.tel.act [t.sl] F) (fun x => ds[i].links.length - x.1) (0, h1, sv1, F1, ys) rfl ⟨by simp, ⟨q1, q2, q3, q4, rfl, q5⟩, q6, q7, by dsimp only; rw [q8]; simp, q9⟩ ?_
        clear q1 q2 q3 q5 q6 q7 q8 q9
        rintro ⟨k, h2, sv2, F2, zs⟩ ⟨hk2, ⟨p1, p2, p3, p4, p5, p6⟩, p7, p8, p9, p10⟩
        dsimp only at hk2 p1 p2 p3 p4 p5 p6 p7 p8 p9 p10
        rw [hbd1] at p5
        rw [hb0] at p3
        simp +contextual (dsimp := false) [p5]
        refine ifA_dec (fun h4 => ?_) (fun h4 => ?_)
        · obtain ⟨id', o', c', e', f', ow', cs', Fi', E'⟩ := SlR.get (hlk h2 p1) k h4
          obtain ⟨rfl, rfl, hok'⟩ := E'.rep
          have hzl : zs.length ≤ 80401 := by
            have e4 := congrArg List.length p9
            have e5 := telD_len nm ds[i]
            have e6 := flatL_len nm (ds[i].links.take k)
            have e7 := congrArg List.length hm
            simp only [List.length_map, List.length_append, List.length_take] at e4 e6 e7
            omega
          have hkw := wrap_succ (show k < 9223372036854775807 by omega)
          have p5T : ∀ T : Heap, (h2 ++ T)[hp.length]? = some (⟨.cells #[dn, dk, int ds[i].code, str ds[i].text, .slice a1 ds[i].action.length z1, .slice a2 ds[i].links.length z2] 57 (0, 0), true, true⟩ : Blk) := fun T => (get_ext p4).trans p5
          have hF2l : ∀ j ∈ F2, j < h2.length := fun j hj => Rp.lt p7 j hj
          simp +contextual (dsimp := false) [p5, p5T, E'.ext, E'.lt, E'.idx, E'.goB, E'.le, E'.lt, E'.cell0, E'.cell, Lnk.c, hkw, str_eq]
          by_cases hl1 : ds[i].links[k].name = nm ∧ ds[i].links[k].ask = false
          · obtain ⟨hl1, hl2⟩ := hl1
            cases hl3 : ds[i].links[k].has
            · simp +contextual (dsimp := false) [p5, p5T, E'.ext, E'.lt, E'.idx, E'.goB, E'.le, E'.lt, E'.cell0, E'.cell, Lnk.c, hkw, str_eq, hl1, hl2, hl3]
              refine AppK.one (R := TldR) (ex := 87) (fx := (0, 0)) (ox := true) (base := H.length + 1) (x := ⟨⟨5, [], []⟩, .slice none 0 0⟩) (cx := [int 5, str [], .slice none 0 0]) (Fx := []) slt83 und83 (Rp.ext p7 (Ext.app _ _)) p8 (by simp) ⟨⟨by simp [i64], by simp [okS], by simp [ones, Value.oneCell']⟩, rfl, rfl⟩ (Fresh.nil _) (by simp) (by simp; omega) (by omega) (by decide) ?_
              intro sv3 h5 F3 r1 r2 r3 r4 r5
              simp only [List.length_append, List.length_cons, List.length_nil] at r3 r4 r5
              have hF3 : ∀ j, j < h2.length → j ∉ F2 → j ∉ F3 := fun j hj hn hm => by
                rcases r5 j hm with h | h | h
                · exact hn h
                · cases h
                · omega
              have e3 : ∀ j, j < h2.length → j ∉ F2 → h5[j]? = h2[j]? := fun j hj hn => (r4 j (by omega) hn).trans (get_ext hj)
              simp +contextual (dsimp := false) [hkw]
              refine LoopN.of (k + 1, h5, sv3, F3, zs ++ [⟨⟨5, [], []⟩, .slice none 0 0⟩]) rfl ⟨h4, ⟨fun j hj => (e3 j (by omega) (fun h => absurd (p8.1 _ h) (by omega))).trans (p1 j hj), by dsimp only; omega, (e3 _ (by omega) (fun h => absurd (p8.1 _ h) (by omega))).trans (p3.trans hb0.symm), by dsimp only; omega, (e3 _ p4 p6).trans (p5.trans hbd1.symm), hF3 _ p4 p6⟩, r1, r2, ?_, ?_⟩ (by dsimp only; omega)
              · dsimp only
                rw [List.map_append, p9, telL_s h4]
                simp [telL, hl1, hl2, hl3]
              · intro t ht
                rcases List.mem_append.1 ht with ht | ht
                · exact p10 t ht
                · simp only [List.mem_singleton] at ht
                  subst ht
                  exact ⟨[], SlR.nil⟩
            · simp +contextual (dsimp := false) [p5, p5T, E'.ext, E'.lt, E'.idx, E'.goB, E'.le, E'.lt, E'.cell0, E'.cell, Lnk.c, hkw, str_eq, hl1, hl2, hl3]
              refine AppK.one (R := TldR) (ex := 87) (fx := (0, 0)) (ox := true) (base := H.length + 1) (x := ⟨⟨4, [], []⟩, .slice none 0 0⟩) (cx := [int 4, str [], .slice none 0 0]) (Fx := []) slt83 und83 (Rp.ext p7 (Ext.app _ _)) p8 (by simp) ⟨⟨by simp [i64], by simp [okS], by simp [ones, Value.oneCell']⟩, rfl, rfl⟩ (Fresh.nil _) (by simp) (by simp; omega) (by omega) (by decide) ?_
              intro sv3 h5 F3 r1 r2 r3 r4 r5
              simp only [List.length_append, List.length_cons, List.length_nil] at r3 r4 r5
              have hF3 : ∀ j, j < h2.length → j ∉ F2 → j ∉ F3 := fun j hj hn hm => by
                rcases r5 j hm with h | h | h
                · exact hn h
                · cases h
                · omega
              have e3 : ∀ j, j < h2.length → j ∉ F2 → h5[j]? = h2[j]? := fun j hj hn => (r4 j (by omega) hn).trans (get_ext hj)
              simp +contextual (dsimp := false) [hkw]
              refine LoopN.of (k + 1, h5, sv3, F3, zs ++ [⟨⟨4, [], []⟩, .slice none 0 0⟩]) rfl ⟨h4, ⟨fun j hj => (e3 j (by omega) (fun h => absurd (p8.1 _ h) (by omega))).trans (p1 j hj), by dsimp only; omega, (e3 _ (by omega) (fun h => absurd (p8.1 _ h) (by omega))).trans (p3.trans hb0.symm), by dsimp only; omega, (e3 _ p4 p6).trans (p5.trans hbd1.symm), hF3 _ p4 p6⟩, r1, r2, ?_, ?_⟩ (by dsimp only; omega)
              · dsimp only
                rw [List.map_append, p9, telL_s h4]
                simp [telL, hl1, hl2, hl3]
              · intro t ht
                rcases List.mem_append.1 ht with ht | ht
                · exact p10 t ht
                · simp only [List.mem_singleton] at ht
                  subst ht
                  exact ⟨[], SlR.nil⟩
          · by_cases hl2 : ds[i].links[k].name = nm
            · have hl3 : ds[i].links[k].ask = true := by
                cases h : ds[i].links[k].ask with
                | true => rfl
                | false => exact absurd ⟨hl2, h⟩ hl1
              simp +contextual (dsimp := false) [p5, p5T, E'.ext, E'.lt, E'.idx, E'.goB, E'.le, E'.lt, E'.cell0, E'.cell, Lnk.c, hkw, str_eq, hl2, hl3]
              refine LoopN.of (k + 1, h2, sv2, F2, zs) rfl ⟨h4, ⟨p1, p2, p3.trans hb0.symm, p4, p5.trans hbd1.symm, p6⟩, p7, p8, ?_, p10⟩ (by dsimp only; omega)
              dsimp only
              rw [p9, telL_s h4]
              simp [telL, hl2, hl3]
            · simp +contextual (dsimp := false) [hkw, hl2]
              refine LoopN.of (k + 1, h2, sv2, F2, zs) rfl ⟨h4, ⟨p1, p2, p3.trans hb0.symm, p4, p5.trans hbd1.symm, p6⟩, p7, p8, ?_, p10⟩ (by dsimp only; omega)
              dsimp only
              rw [p9, telL_s h4]
              simp [telL, hl2]
        · rw [List.take_of_length_le (show ds[i].links.length ≤ k by omega), ← tels_s h3] at p9
          simp +contextual (dsimp := false) [wrap_succ (show i < 9223372036854775807 by omega)]
          exact LoopN.of (i + 1, h2, sv2, F2, zs) rfl ⟨h3, ⟨p1, p2, p3.trans hb0.symm⟩, p7, p8, p9, p10⟩ (by dsimp only; omega)
    · simp +contextual (dsimp := false) [hnm]
      obtain ⟨h1, hh1⟩ : ∃ h1, h1 = hp ++ [(⟨.cells #[str ds[i].name, int ds[i].kind, int ds[i].code, str ds[i].text, .slice a1 ds[i].action.length z1, .slice a2 ds[i].links.length z2] 57 (0, 0), true, true⟩ : Blk)] := ⟨_, rfl⟩
      rw [← hh1]
      obtain ⟨dn, dk, hbd1⟩ : ∃ dn dk, h1[hp.length]? = some (⟨.cells #[dn, dk, int ds[i].code, str ds[i].text, .slice a1 ds[i].action.length z1, .slice a2 ds[i].links.length z2] 57 (0, 0), true, true⟩ : Blk) := ⟨str ds[i].name, int ds[i].kind, by rw [hh1]; simp⟩
      have hl1 : h1.length = hp.length + 1 := by rw [hh1]; simp
      have hxx : Ext hp h1 := by rw [hh1]; exact Ext.app _ _
      obtain ⟨ys, hys⟩ : ∃ ys, ys = xs := ⟨_, rfl⟩
      obtain ⟨sv1, F1, q6, q7, q5⟩ : ∃ sv1 F1, TldsR h1 ys [sv1] F1 ∧ Fresh (H.length + 1) F1 ∧ hp.length ∉ F1 ∧ sv1 = sv := ⟨sv, F, by rw [hys]; exact Rp.ext hr hxx, hf, fun h => absurd (hFl _ h) (by omega), rfl⟩
      obtain ⟨q5, rfl⟩ := q5
      have q1 := hx.trans hxx
      have q2 : H.length + 2 ≤ h1.length := by omega
      have q3 : h1[H.length]? = H0[H.length]? := (hxx _ (by omega)).trans (hbp.trans hb0.symm)
      have q4 : hp.length < h1.length := by omega
      have q8 : ys.map (·.tel) = tels nm (ds.take i) ++ telD nm ds[i] := by rw [hys, hm, telD, if_neg hnm, List.append_nil]
      have q9 : ∀ t ∈ ys, ∃ F, CodeR own H t.tel.act [t.sl] F := by rw [hys]; exact hg
      refine LoopA.up (σ := Nat × Heap × Value × List Nat × List Tld) [1, 2, 5, 6, 7, 9] (fun i => [(5, i.2.2.1), (9, int i.1)]) (fun i => i.2.1)
        (fun x => x.1 ≤ ds[i].links.length ∧ (Ext H x.2.1 ∧ H.length + 2 ≤ x.2.1.length ∧ x.2.1[H.length]? = H0[H.length]? ∧ hp.length < x.2.1.length ∧ x.2.1[hp.length]? = h1[hp.length]? ∧ hp.length ∉ x.2.2.2.1) ∧ TldsR x.2.1 x.2.2.2.2 [x.2.2.1] x.2.2.2.1 ∧ Fresh (H.length + 1) x.2.2.2.1 ∧ x.2.2.2.2.map (·.tel) = tels nm (ds.take i) ++ (telD nm ds[i] ++ (ds[i].links.take x.1).flatMap (telL nm)) ∧ ∀ t ∈ x.2.2.2.2, ∃ F, CodeR own H t.tel.act [t.sl] F) (fun x => ds[i].links.length - x.1) (0, h1, sv1, F1, ys) rfl ⟨by simp, ⟨q1, q2, q3, q4, rfl, q5⟩, q6, q7, by dsimp only; rw [q8]; simp, q9⟩ ?_
      clear q1 q2 q3 q5 q6 q7 q8 q9
      rintro ⟨k, h2, sv2, F2, zs⟩ ⟨hk2, ⟨p1, p2, p3, p4, p5, p6⟩, p7, p8, p9, p10⟩
      dsimp only at hk2 p1 p2 p3 p4 p5 p6 p7 p8 p9 p10
      rw [hbd1] at p5
      rw [hb0] at p3
      simp +contextual (dsimp := false) [p5]
      refine ifA_dec (fun h4 => ?_) (fun h4 => ?_)
      · obtain ⟨id', o', c', e', f', ow', cs', Fi', E'⟩ := SlR.get (hlk h2 p1) k h4
        obtain ⟨rfl, rfl, hok'⟩ := E'.rep
        have hzl : zs.length ≤ 80401 := by
          have e4 := congrArg List.length p9
          have e5 := telD_len nm ds[i]
          have e6 := flatL_len nm (ds[i].links.take k)
          have e7 := congrArg List.length hm
          simp only [List.length_map, List.length_append, List.length_take] at e4 e6 e7
          omega
        have hkw := wrap_succ (show k < 9223372036854775807 by omega)
        have p5T : ∀ T : Heap, (h2 ++ T)[hp.length]? = some (⟨.cells #[dn, dk, int ds[i].code, str ds[i].text, .slice a1 ds[i].action.length z1, .slice a2 ds[i].links.length z2] 57 (0, 0), true, true⟩ : Blk) := fun T => (get_ext p4).trans p5
        have hF2l : ∀ j ∈ F2, j < h2.length := fun j hj => Rp.lt p7 j hj
        simp +contextual (dsimp := false) [p5, p5T, E'.ext, E'.lt, E'.idx, E'.goB, E'.le, E'.lt, E'.cell0, E'.cell, Lnk.c, hkw, str_eq]
        by_cases hl1 : ds[i].links[k].name = nm ∧ ds[i].links[k].ask = false
        · obtain ⟨hl1, hl2⟩ := hl1
          cases hl3 : ds[i].links[k].has
          · simp +contextual (dsimp := false) [p5, p5T, E'.ext, E'.lt, E'.idx, E'.goB, E'.le, E'.lt, E'.cell0, E'.cell, Lnk.c, hkw, str_eq, hl1, hl2, hl3]
            refine AppK.one (R := TldR) (ex := 87) (fx := (0, 0)) (ox := true) (base := H.length + 1) (x := ⟨⟨5, [], []⟩, .slice none 0 0⟩) (cx := [int 5, str [], .slice none 0 0]) (Fx := []) slt83 und83 (Rp.ext p7 (Ext.app _ _)) p8 (by simp) ⟨⟨by simp [i64], by simp [okS], by simp [ones, Value.oneCell']⟩, rfl, rfl⟩ (Fresh.nil _) (by simp) (by simp; omega) (by omega) (by decide) ?_
            intro sv3 h5 F3 r1 r2 r3 r4 r5
            simp only [List.length_append, List.length_cons, List.length_nil] at r3 r4 r5
            have hF3 : ∀ j, j < h2.length → j ∉ F2 → j ∉ F3 := fun j hj hn hm => by
              rcases r5 j hm with h | h | h
              · exact hn h
              · cases h
              · omega
            have e3 : ∀ j, j < h2.length → j ∉ F2 → h5[j]? = h2[j]? := fun j hj hn => (r4 j (by omega) hn).trans (get_ext hj)
            simp +contextual (dsimp := false) [hkw]
            refine LoopN.of (k + 1, h5, sv3, F3, zs ++ [⟨⟨5, [], []⟩, .slice none 0 0⟩]) rfl ⟨h4, ⟨fun j hj => (e3 j (by omega) (fun h => absurd (p8.1 _ h) (by omega))).trans (p1 j hj), by dsimp only; omega, (e3 _ (by omega) (fun h => absurd (p8.1 _ h) (by omega))).trans (p3.trans hb0.symm), by dsimp only; omega, (e3 _ p4 p6).trans (p5.trans hbd1.symm), hF3 _ p4 p6⟩, r1, r2, ?_, ?_⟩ (by dsimp only; omega)
            · dsimp only
              rw [List.map_append, p9, telL_s h4]
              simp [telL, hl1, hl2, hl3]
            · intro t ht
              rcases List.mem_append.1 ht with ht | ht
              · exact p10 t ht
              · simp only [List.mem_singleton] at ht
                subst ht
                exact ⟨[], SlR.nil⟩
          · simp +contextual (dsimp := false) [p5, p5T, E'.ext, E'.lt, E'.idx, E'.goB, E'.le, E'.lt, E'.cell0, E'.cell, Lnk.c, hkw, str_eq, hl1, hl2, hl3]
            refine AppK.one (R := TldR) (ex := 87) (fx := (0, 0)) (ox := true) (base := H.length + 1) (x := ⟨⟨4, [], []⟩, .slice none 0 0⟩) (cx := [int 4, str [], .slice none 0 0]) (Fx := []) slt83 und83 (Rp.ext p7 (Ext.app _ _)) p8 (by simp) ⟨⟨by simp [i64], by simp [okS], by simp [ones, Value.oneCell']⟩, rfl, rfl⟩ (Fresh.nil _) (by simp) (by simp; omega) (by omega) (by decide) ?_
            intro sv3 h5 F3 r1 r2 r3 r4 r5
            simp only [List.length_append, List.length_cons, List.length_nil] at r3 r4 r5
            have hF3 : ∀ j, j < h2.length → j ∉ F2 → j ∉ F3 := fun j hj hn hm => by
              rcases r5 j hm with h | h | h
              · exact hn h
              · cases h
              · omega
            have e3 : ∀ j, j < h2.length → j ∉ F2 → h5[j]? = h2[j]? := fun j hj hn => (r4 j (by omega) hn).trans (get_ext hj)
            simp +contextual (dsimp := false) [hkw]
            refine LoopN.of (k + 1, h5, sv3, F3, zs ++ [⟨⟨4, [], []⟩, .slice none 0 0⟩]) rfl ⟨h4, ⟨fun j hj => (e3 j (by omega) (fun h => absurd (p8.1 _ h) (by omega))).trans (p1 j hj), by dsimp only; omega, (e3 _ (by omega) (fun h => absurd (p8.1 _ h) (by omega))).trans (p3.trans hb0.symm), by dsimp only; omega, (e3 _ p4 p6).trans (p5.trans hbd1.symm), hF3 _ p4 p6⟩, r1, r2, ?_, ?_⟩ (by dsimp only; omega)
            · dsimp only
              rw [List.map_append, p9, telL_s h4]
              simp [telL, hl1, hl2, hl3]
            · intro t ht
              rcases List.mem_append.1 ht with ht | ht
              · exact p10 t ht
              · simp only [List.mem_singleton] at ht
                subst ht
                exact ⟨[], SlR.nil⟩
        · by_cases hl2 : ds[i].links[k].name = nm
          · have hl3 : ds[i].links[k].ask = true := by
              cases h : ds[i].links[k].ask with
              | true => rfl
              | false => exact absurd ⟨hl2, h⟩ hl1
            simp +contextual (dsimp := false) [p5, p5T, E'.ext, E'.lt, E'.idx, E'.goB, E'.le, E'.lt, E'.cell0, E'.cell, Lnk.c, hkw, str_eq, hl2, hl3]
            refine LoopN.of (k + 1, h2, sv2, F2, zs) rfl ⟨h4, ⟨p1, p2, p3.trans hb0.symm, p4, p5.trans hbd1.symm, p6⟩, p7, p8, ?_, p10⟩ (by dsimp only; omega)
            dsimp only
            rw [p9, telL_s h4]
            simp [telL, hl2, hl3]
          · simp +contextual (dsimp := false) [hkw, hl2]
            refine LoopN.of (k + 1, h2, sv2, F2, zs) rfl ⟨h4, ⟨p1, p2, p3.trans hb0.symm, p4, p5.trans hbd1.symm, p6⟩, p7, p8, ?_, p10⟩ (by dsimp only; omega)
            dsimp only
            rw [p9, telL_s h4]
            simp [telL, hl2]
      · rw [List.take_of_length_le (show ds[i].links.length ≤ k by omega), ← tels_s h3] at p9
        simp +contextual (dsimp := false) [wrap_succ (show i < 9223372036854775807 by omega)]
        exact LoopN.of (i + 1, h2, sv2, F2, zs) rfl ⟨h3, ⟨p1, p2, p3.trans hb0.symm⟩, p7, p8, p9, p10⟩ (by dsimp only; omega)
  · rw [List.take_of_length_le (show ds.length ≤ i by omega)] at hm
    exact ⟨hx, F, xs, hr, hf.weak (by omega), hm, hg⟩
end Go.Proofs.YtbigpkfdeaigeaaGreatDoor

/- spec.l5There, l5Agree. No condition. -/
set_option linter.unusedSimpArgs false
set_option linter.unusedVariables false
namespace Go.Proofs.YtbigpkfdeaigeaaGreatDoor
open Go Go.Am Go.Proofs
set_option maxRecDepth 20000
variable {ng : Nat}
abbrev Tld.v (x : Tld) : Value := .agg #[.int .i64 x.tel.kind, .string ⟨⟨x.tel.text⟩⟩, x.sl]
theorem l5There_ac {x : Tld} {H : Heap} : AC Tryz.prog ng 101 [.agg #[.int .i64 x.tel.kind, .string ⟨⟨x.tel.text⟩⟩, x.sl]] H fun v S' => v = .bool (thereT x.tel) ∧ S' = H := by
  refine .flat (AC.go [] Tryz.func101 rfl Tryz.ntmps101 rfl ⟨mixed, by kernel_rfl⟩ ?_)
  simp +contextual (dsimp := false)
  unfold thereT
  refine ifA_dec (fun h => ?_) (fun h => ?_)
  · simp [h]
  · refine ifA_dec (fun h2 => ?_) (fun h2 => ?_)
    · simp [h2]
    · simp [h, h2]
theorem l5Agree_ac {o1 o2 : Bool} {x y : Tld} {F1 F2 : List Nat} {H : Heap} (h1 : CodeR o1 H x.tel.act [x.sl] F1) (h2 : CodeR o2 H y.tel.act [y.sl] F2) :
    AC Tryz.prog ng 46 [.agg #[.int .i64 x.tel.kind, .string ⟨⟨x.tel.text⟩⟩, x.sl], .agg #[.int .i64 y.tel.kind, .string ⟨⟨y.tel.text⟩⟩, y.sl]] H fun v S' => v = .bool (agreeT x.tel y.tel) ∧ S' = H := by
  refine .flat (AC.go [(1, .take 0 <| .take 2 <| .one 1 [2] <| .one 3 [] <| .take 4 <| .done)] Tryz.func46 rfl Tryz.ntmps46 rfl ⟨mixed, by kernel_rfl⟩ ?_)
  simp +contextual (dsimp := false)
  refine CallK.fl ⟨_, Tryz.func101, rfl, rfl⟩ (l5There_ac (x := x)) ?_
  simp +contextual (dsimp := false)
  refine CallK.fl ⟨_, Tryz.func101, rfl, rfl⟩ (l5There_ac (x := y)) ?_
  simp +contextual (dsimp := false) [bin_bneq und4]
  unfold agreeT
  refine ifA_dec (fun h => ?_) (fun h => ?_)
  · rw [if_neg (by simpa using h)]
    refine ifA_dec (fun h3 => ?_) (fun h3 => ?_)
    · rw [if_pos (.inl h3)]
    · refine ifA_dec (fun h4 => ?_) (fun h4 => ?_)
      · rw [if_pos (.inr (.inl h4))]
      · refine CallK.fl ⟨_, Tryz.func101, rfl, rfl⟩ (l5There_ac (x := x)) ?_
        cases ht : thereT x.tel with
        | false =>
          rw [if_pos (.inr (.inr rfl))]
          simp +contextual (dsimp := false) [ht]
        | true =>
          rw [if_neg (by rintro (q | q | q); exact h3 q; exact h4 q; cases q)]
          simp +contextual (dsimp := false) [ht, str_eq]
          refine ifA_dec (fun h5 => ?_) (fun h5 => ?_)
          · by_cases h6 : x.tel.text = y.tel.text
            · simp +contextual (dsimp := false) [h5, h6]
              refine CallK.fl ⟨_, Tryz.func102, rfl, rfl⟩ (l4Same_ac (Rp.ext h1 (Ext.app _ _)) (Rp.ext h2 (Ext.app _ _))) ?_
              simp +contextual (dsimp := false) [h5, h6]
            · simp +contextual (dsimp := false) [h5, h6]
          · simp +contextual (dsimp := false) [h5]
  · rw [if_pos h]
end Go.Proofs.YtbigpkfdeaigeaaGreatDoor

/- spec.Why. No condition. -/
set_option linter.unusedSimpArgs false
set_option linter.unusedVariables false
namespace Go.Proofs.YtbigpkfdeaigeaaGreatDoor
open Go Go.Am Go.Proofs
set_option maxRecDepth 20000
variable {ng : Nat}
theorem take_filter_s {l : List (List UInt8)} {p : List UInt8 → Bool} {i : Nat} (h : i < l.length) : (l.take (i + 1)).filter p = (l.take i).filter p ++ (if p l[i] then [l[i]] else []) := by
  rw [List.take_succ_eq_append_getElem h, List.filter_append]
  by_cases hp : p l[i] <;> simp [List.filter_cons, hp]
theorem put_flag {L : List (List UInt8)} {n : List UInt8} (t : Bool) : insS (setOf (L ++ (if t then [n] else []))) n = setOf (L ++ [n]) := by
  rw [← setOf_snoc]
  apply setOf_congr
  intro y
  cases t <;> simp
theorem any_take_t {α : Type} {l : List α} {p : α → Bool} {k : Nat} (h : k < l.length) : (l.take (k + 1)).any p = ((l.take k).any p || p l[k]) := by
  rw [List.take_succ_eq_append_getElem h, List.any_append]
  simp
theorem odds_eq {a b : List Deed} {n : List UInt8} {xs ys : List Tld} (hx : xs.map (·.tel) = tels n a) (hy : ys.map (·.tel) = tels n b) : (xs.any fun x => ys.any fun y => !agreeT x.tel y.tel) = odds a b n := by
  unfold odds
  rw [← hx, ← hy, List.any_map]
  congr 1
  funext x
  dsimp only [Function.comp]
  rw [List.any_map]
  rfl
theorem specWhy_ac {oa ob : Bool} {da db : List Deed} {sa sb : Value} {FA FB : List Nat} {H : Heap} (ha : DeedsR oa H da [sa] FA) (hb : DeedsR ob H db [sb] FB) : AC Tryz.prog ng 9 [.agg #[sa], .agg #[sb]] H fun v S' => ∃ F', Ext H S' ∧ StrsR true S' (whyOf da db) [v] F' ∧ Fresh H.length F' := by
  obtain ⟨aa, za, rfl⟩ := ha.form
  obtain ⟨ab, zb, rfl⟩ := hb.form
  refine AC.go [] Tryz.func9 rfl Tryz.ntmps9 rfl ⟨mixed, by kernel_rfl⟩ ?_
  simp +contextual (dsimp := false)
  refine CallK.fl ⟨_, Tryz.func44, rfl, rfl⟩ (l3Ok_ac (Rp.ext ha (Ext.app _ _))) ?_
  unfold whyOf
  cases hoa : accOk da with
  | false =>
    simp +contextual (dsimp := false)
    exact ⟨_, SlR.mt (R := strR) (e := 9) (f := (0, 0)) (j := H.length + 2) (by simp), Fresh.one (by omega)⟩
  | true =>
    simp +contextual (dsimp := false)
    refine CallK.fl ⟨_, Tryz.func44, rfl, rfl⟩ (l3Ok_ac (Rp.ext hb (Ext.app _ _))) ?_
    cases hob : accOk db with
    | false =>
      simp +contextual (dsimp := false)
      exact ⟨_, SlR.mt (R := strR) (e := 9) (f := (0, 0)) (j := H.length + 2) (by simp), Fresh.one (by omega)⟩
    | true =>
      simp +contextual (dsimp := false)
      obtain ⟨H0, hH0⟩ : ∃ H0, H0 = H ++ [(⟨.cells #[.slice aa da.length za] 30 (0, 0), true, true⟩ : Blk), ⟨.cells #[.slice ab db.length zb] 30 (0, 0), true, true⟩, ⟨.cells #[] 9 (0, 0), true, true⟩] := ⟨_, rfl⟩
      have hx0 : Ext H H0 := by rw [hH0]; exact Ext.app _ _
      have hl0 : H0.length = H.length + 3 := by rw [hH0]; simp
      have hb0 : H0[H.length]? = some (⟨.cells #[.slice aa da.length za] 30 (0, 0), true, true⟩ : Blk) := by rw [hH0]; simp
      have hb1 : H0[H.length + 1]? = some (⟨.cells #[.slice ab db.length zb] 30 (0, 0), true, true⟩ : Blk) := by rw [hH0]; simp
      have hr0 : StrsR true H0 (setOf []) [.slice (some ⟨H.length + 2, 0, none⟩) 0 1] [H.length + 2] := SlR.mt (R := strR) (e := 9) (f := (0, 0)) (by rw [hH0]; simp)
      rw [← hH0]
      refine CallK.of ⟨_, Tryz.func38, rfl, rfl⟩ (specNames_ac (Rp.ext ha hx0)) ?_
      rintro v S1 ⟨FN, g1, g2, g3⟩
      obtain ⟨an, zn, rfl⟩ := g2.form
      have hnl : (namesOf da).length ≤ 80400 := by
        unfold namesOf
        rw [if_pos hoa]
        exact Nat.le_trans (setOf_len _) (allNames_len hoa)
      have hbn := g2.bound
      generalize hN : namesOf da = N at *
      simp +contextual (dsimp := false)
      refine LoopA.up (σ := Nat × Heap × Value × List Nat) [2, 3, 5, 6, 7] (fun i => [(5, i.2.2.1), (7, int i.1)]) (fun i => i.2.1)
        (fun x => x.1 ≤ N.length ∧ Ext S1 x.2.1 ∧ StrsR true x.2.1 (setOf ((N.take x.1).filter (odds da db))) [x.2.2.1] x.2.2.2 ∧ Fresh H.length x.2.2.2) (fun i => N.length - i.1) (0, S1, _, _) rfl ⟨by simp, Ext.refl _, by dsimp only; exact Rp.ext hr0 g1, Fresh.one (by omega)⟩ ?_
      rintro ⟨i, hp, sv, F⟩ ⟨hi, hx, hr, hf⟩
      dsimp only at hi hx hr hf
      have hle := hx.le
      have hle1 := g1.le
      have hb0' : hp[H.length]? = _ := ((g1.trans hx) _ (by omega)).trans hb0
      have hb1' : hp[H.length + 1]? = _ := ((g1.trans hx) _ (by omega)).trans hb1
      simp +contextual (dsimp := false) [hb0', hb1']
      refine ifA_dec (fun h3 => ?_) (fun h3 => ?_)
      · have hdi : ∀ h : Heap, Ext S1 h → ∃ id o c e f ow cs Fi, Elt strR 1 true h N (.slice an N.length zn) FN i N[i] id o c e f ow cs Fi := fun h he => SlR.get (Rp.ext g2 he) i h3
        obtain ⟨id, o, c, e, f, ow, cs, Fi, E⟩ := hdi hp hx
        obtain ⟨rfl, rfl, hnk⟩ := E.rep
        simp +contextual (dsimp := false) [hb0', hb1', E.idx, E.goB, E.le, E.lt, E.cell0, E.cell, E.ext, wrap_succ (show i < 9223372036854775807 by omega)]
        refine CallK.of ⟨_, Tryz.func45, rfl, rfl⟩ (l5Tells_ac (Rp.ext ha (hx0.trans (g1.trans hx))) hnk hoa) ?_
        rintro v2 S2 ⟨F2, xs, e2, t2, f2, m2, c2⟩
        obtain ⟨ax, zx, rfl⟩ := t2.form
        obtain ⟨id2, o2, c2', e2', f2', ow2, cs2, Fi2, E2⟩ := hdi S2 (hx.trans e2)
        obtain ⟨rfl, rfl, -⟩ := E2.rep
        have hb0'' : S2[H.length]? = _ := ((g1.trans (hx.trans e2)) _ (by omega)).trans hb0
        have hb1'' : S2[H.length + 1]? = _ := ((g1.trans (hx.trans e2)) _ (by omega)).trans hb1
        simp +contextual (dsimp := false) [hb0'', hb1'', E2.idx, E2.goB, E2.le, E2.lt, E2.cell0, E2.cell, E2.ext, wrap_succ (show i < 9223372036854775807 by omega)]
        refine CallK.of ⟨_, Tryz.func45, rfl, rfl⟩ (l5Tells_ac (Rp.ext hb (hx0.trans (g1.trans (hx.trans e2)))) hnk hob) ?_
        rintro v3 S3 ⟨F3, ys, e3, t3, f3, m3, c3⟩
        obtain ⟨ay, zy, rfl⟩ := t3.form
        have hxs := congrArg List.length m2
        have hys := congrArg List.length m3
        simp only [List.length_map] at hxs hys
        have hxl := Nat.le_trans (hxs ▸ tels_len N[i] da) (allNames_len hoa)
        have hyl := Nat.le_trans (hys ▸ tels_len N[i] db) (allNames_len hob)
        have hpl : ((N.take i).filter (odds da db)).length ≤ 80400 := Nat.le_trans (List.length_filter_le _ _) (by simp only [List.length_take]; omega)
        have hodd := odds_eq (a := da) (b := db) (n := N[i]) m2 m3
        simp +contextual (dsimp := false)
        refine LoopA.up (σ := Nat × Heap × Value × List Nat) [2, 3, 5, 6, 7, 8, 9, 10] (fun i => [(5, i.2.2.1), (10, int i.1)]) (fun i => i.2.1)
          (fun x => x.1 ≤ xs.length ∧ Ext S3 x.2.1 ∧ StrsR true x.2.1 (setOf ((N.take i).filter (odds da db) ++ (if (xs.take x.1).any (fun x => ys.any fun y => !agreeT x.tel y.tel) then [N[i]] else []))) [x.2.2.1] x.2.2.2 ∧ Fresh H.length x.2.2.2) (fun x => xs.length - x.1) (0, S3, sv, F) rfl ⟨by simp, Ext.refl _, by simpa using Rp.ext hr (e2.trans e3), hf⟩ ?_
        rintro ⟨k, h4, sv4, F4⟩ ⟨hk, hx4, hr4, hf4⟩
        dsimp only at hk hx4 hr4 hf4
        have hle4 := hx4.le
        have hle3 := e3.le
        have hle2 := e2.le
        have hxw := t2.bound
        have hyw := t3.bound
        simp +contextual (dsimp := false)
        refine ifA_dec (fun h5 => ?_) (fun h5 => ?_)
        · refine LoopA.up (σ := Nat × Heap × Value × List Nat) [2, 3, 5, 6, 7, 8, 9, 10, 11] (fun i => [(5, i.2.2.1), (11, int i.1)]) (fun i => i.2.1)
            (fun x => x.1 ≤ ys.length ∧ Ext S3 x.2.1 ∧ StrsR true x.2.1 (setOf ((N.take i).filter (odds da db) ++ (if ((xs.take k).any (fun x => ys.any fun y => !agreeT x.tel y.tel) || (ys.take x.1).any fun y => !agreeT xs[k].tel y.tel) then [N[i]] else []))) [x.2.2.1] x.2.2.2 ∧ Fresh H.length x.2.2.2) (fun x => ys.length - x.1) (0, h4, sv4, F4) rfl ⟨by simp, hx4, by simpa using hr4, hf4⟩ ?_
          rintro ⟨j, h6, sv6, F6⟩ ⟨hj, hx6, hr6, hf6⟩
          dsimp only at hj hx6 hr6 hf6
          have hle6 := hx6.le
          simp +contextual (dsimp := false)
          refine ifA_dec (fun h7 => ?_) (fun h7 => ?_)
          · obtain ⟨idx, ox, cx, ex, fx, owx, csx, Fix, EX⟩ := SlR.get (Rp.ext t2 (e3.trans hx6)) k h5
            obtain ⟨hkx, rfl, rfl⟩ := EX.rep
            obtain ⟨idy, oy, cy, ey, fy, owy, csy, Fiy, EY⟩ := SlR.get (Rp.ext t3 hx6) j h7
            obtain ⟨hky, rfl, rfl⟩ := EY.rep
            obtain ⟨Fx, hcx⟩ := c2 _ (List.getElem_mem h5)
            obtain ⟨Fy, hcy⟩ := c3 _ (List.getElem_mem h7)
            simp +contextual (dsimp := false) [EX.idx, EX.goB, EX.le, EX.lt, EX.cell0, EX.cell, EX.ext, EY.idx, EY.goB, EY.le, EY.lt, EY.cell0, EY.cell, EY.ext]
            refine CallK.fl ⟨_, Tryz.func46, rfl, rfl⟩ (l5Agree_ac (x := xs[k]) (y := ys[j]) (Rp.ext hcx (e2.trans (e3.trans hx6))) (Rp.ext hcy (e3.trans hx6))) ?_
            have hjw := wrap_succ (show j < 9223372036854775807 by omega)
            cases hag : agreeT xs[k].tel ys[j].tel with
            | true =>
              simp +contextual (dsimp := false) [hag, hjw]
              refine LoopN.of (j + 1, h6, sv6, F6) rfl ⟨h7, hx6, ?_, hf6⟩ (by dsimp only; omega)
              dsimp only
              rw [any_take_t h7, hag, Bool.not_true, Bool.or_false]
              exact hr6
            | false =>
              obtain ⟨id8, o8, c8, e8, f8, ow8, cs8, Fi8, E8⟩ := hdi h6 (hx.trans (e2.trans (e3.trans hx6)))
              obtain ⟨rfl, rfl, -⟩ := E8.rep
              simp +contextual (dsimp := false) [hag, E8.idx, E8.goB, E8.le, E8.lt, E8.cell0, E8.cell, E8.ext]
              refine CallK.of ⟨_, Tryz.func47, rfl, rfl⟩ (l5Put_ac (base := H.length) hr6 hf6 (by omega) hnk (by
                refine Nat.le_trans (setOf_len _) ?_
                simp only [List.length_append]
                split <;> simp <;> omega)) ?_
              rintro v9 S9 ⟨F9, e9, r9, f9⟩
              rw [put_flag] at r9
              simp +contextual (dsimp := false) [hjw]
              refine LoopN.of (j + 1, S9, v9, F9) rfl ⟨h7, hx6.trans e9, ?_, f9⟩ (by dsimp only; omega)
              dsimp only
              rw [any_take_t h7, hag, Bool.not_false, Bool.or_true, Bool.or_true, if_pos rfl]
              exact r9
          · rw [List.take_of_length_le (show ys.length ≤ j by omega)] at hr6
            simp +contextual (dsimp := false) [wrap_succ (show k < 9223372036854775807 by omega)]
            refine LoopN.of (k + 1, h6, sv6, F6) rfl ⟨h5, hx6, ?_, hf6⟩ (by dsimp only; omega)
            dsimp only
            rw [any_take_t h5]
            exact hr6
        · rw [List.take_of_length_le (show xs.length ≤ k by omega), hodd, ← take_filter_s h3] at hr4
          simp +contextual (dsimp := false) [wrap_succ (show i < 9223372036854775807 by omega)]
          exact LoopN.of (i + 1, h4, sv4, F4) rfl ⟨h3, (hx.trans e2).trans (e3.trans hx4), hr4, hf4⟩ (by dsimp only; omega)
      · rw [List.take_of_length_le (show N.length ≤ i by omega)] at hr
        exact ⟨hx0.trans (g1.trans hx), F, hr, hf⟩
end Go.Proofs.YtbigpkfdeaigeaaGreatDoor

/- CheckAccount, the program's. No condition. -/
import Derived.Test.YtehhjbomdohgoaaAccL
set_option linter.unusedSimpArgs false
set_option linter.unusedVariables false
namespace Go.Proofs.Ytehhjbomdohgoaa
open Go Go.Am Go.Proofs
set_option maxRecDepth 20000
variable {ng : Nat}
abbrev kS : List UInt8 → Value := fun s => .string ⟨⟨s⟩⟩
theorem keySB : KeyT Try.prog 100 kS 9 4 .string (.bool false) :=
  ⟨und100, und9, zer4, rfl, fun _ => rfl, fun a b => sameNow_str a b⟩
/-- A set of names, as the map holds it. -/
def vS (l : List (List UInt8)) : List (List UInt8 × Value) := l.map fun n => (n, .bool true)
theorem vS_keys (l : List (List UInt8)) : (vS l).map (·.1) = l := by
  unfold vS
  rw [List.map_map]
  exact List.map_id l
theorem getP_vS (a : List UInt8) : ∀ l : List (List UInt8), getP a (vS l) = if a ∈ l then some (.bool true) else none
  | [] => rfl
  | b :: l => by
    have ih := getP_vS a l
    unfold vS at ih ⊢
    rw [List.map_cons, getP_cons, ih]
    by_cases h : a = b
    · simp [h]
    · simp [h]
theorem getP_vI (a : Int) : ∀ l : List (Int × Int), (l.map (·.1)).Nodup → ∀ d, (a, d) ∈ l → getP a (vI l) = some (int d)
  | [], _, _, h => by cases h
  | p :: l, hn, d, h => by
    unfold vI
    rw [List.map_cons, getP_cons]
    have hn' := List.nodup_cons.1 hn
    rcases List.mem_cons.1 h with rfl | h
    · simp
    · have : a ≠ p.1 := fun hc => hn'.1 (List.mem_map.2 ⟨(a, d), h, hc⟩)
      rw [if_neg this]
      exact getP_vI a l hn'.2 d h
set_option maxHeartbeats 2000000 in
theorem implCheckAccount_ac {own : Bool} {ds : List Deed} {sd : Value} {FD : List Nat} {H : Heap} (hs : DeedsR own H ds [sd] FD) : AC Try.prog ng 18 [.agg #[sd]] H fun v S' => v = .tuple #[int (checkAcc ds).1, int (checkAcc ds).2] ∧ S' = H := by
  obtain ⟨ad, zd, rfl⟩ := hs.form
  have hb := hs.bound
  refine .flat (AC.go [] Try.func18 rfl Try.ntmps18 rfl ⟨mixed, by kernel_rfl⟩ ?_)
  by_cases k1 : ds.length = 0 ∨ 400 < ds.length
  · rw [checkAcc_1 k1]
    rcases k1 with h | h
    · simp +contextual (dsimp := false) [h]
    · simp +contextual (dsimp := false) [show ¬ ds.length = 0 by omega, show (400 : Int) < ds.length by omega, show ¬ ds = [] by rintro rfl; simp at h]
  have k0 : ¬ ds = [] := by rintro rfl; simp at k1
  simp +contextual (dsimp := false) [show ¬ ds.length = 0 by omega, k0, show ¬ (400 : Int) < ds.length by omega]
  obtain ⟨H0, hH0⟩ : ∃ H0, H0 = H ++ [(⟨.cells #[.slice ad ds.length zd] 43 (0, 0), true, true⟩ : Blk)] := ⟨_, rfl⟩
  have hl0 : H.length < H0.length := by rw [hH0]; simp
  have hx0 : Ext H H0 := by rw [hH0]; exact Ext.app _ _
  have hb0 : H0[H.length]? = some (⟨.cells #[.slice ad ds.length zd] 43 (0, 0), true, true⟩ : Blk) := by rw [hH0]; simp
  rw [← hH0]
  refine LoopA.up (σ := Nat × Heap) [1, 26, 27, 28] (fun i => [(28, int i.1)]) (fun i => i.2) (fun i => i.1 ≤ ds.length ∧ Ext H0 i.2 ∧ ∀ j (hj : j < ds.length), j < i.1 → deedOk ds j ds[j] = true) (fun i => ds.length - i.1) (0, _) rfl ⟨by simp, Ext.refl _, by simp⟩ ?_
  rintro ⟨i, hp⟩ ⟨hi, he, hv⟩
  dsimp only at hi he hv
  have hex : Ext H hp := hx0.trans he
  have hbx : hp[H.length]? = _ := (he _ hl0).trans hb0
  have hbx2 : ∀ T : Heap, (hp ++ T)[H.length]? = _ := fun T => (get_ext (Nat.lt_of_lt_of_le hl0 he.le)).trans hbx
  simp +contextual (dsimp := false) [hbx]
  refine ifA_dec (fun h3 => ?_) (fun h3 => ?_)
  · obtain ⟨id, o, c, e, f, ow, cs, Fi, E⟩ := SlR.get (Rp.ext hs hex) i h3
    have hrep := E.rep
    obtain ⟨hk, s1, s2, G1, G2, rfl, hFi, hc1, hc2⟩ := E.rep
    obtain ⟨a1, z1, rfl⟩ := hc1.form
    obtain ⟨a2, z2, rfl⟩ := hc2.form
    simp +contextual (dsimp := false) [E.idx, E.goB, E.le, E.lt, E.ext, hbx, hbx2, wrap_succ (show i < 9223372036854775807 by omega)]
    refine CallK.fl ⟨_, Try.func57, rfl, rfl⟩ (right_ac (Rp.ext hs (hex.trans (Ext.app _ _))) (Rp.ext hrep (Ext.app _ _)) i h3) ?_
    simp +contextual (dsimp := false) [wrap_succ (show i < 9223372036854775807 by omega)]
    refine ifA_intro (fun h4 => ?_) (fun h4 => ?_)
    · exact LoopN.of (i + 1, _) rfl ⟨h3, he.trans (Ext.app _ _), fun j hj hlt => by
        rcases Nat.lt_or_ge j i with h | h
        · exact hv j hj h
        · obtain rfl : j = i := by dsimp only at hlt; omega
          exact h4⟩ (by dsimp only; omega)
    · rw [checkAcc_2 k1 h3 h4 hv]
      simp [hex]
  have k2 : ∀ j (hj : j < ds.length), deedOk ds j ds[j] = true := fun j hj => hv j hj (by omega)
  have hbk : back ds := deedOk_back fun i hi => by rw [dAt_lt hi]; exact k2 i hi
  clear hv
  simp +contextual (dsimp := false) [hbx, hbx2]
  refine LoopA.up (σ := Nat × Heap) [1, 6, 43, 44, 45] (fun i => [(45, int i.1)]) (fun i => i.2)
    (fun x => x.1 ≤ ds.length ∧ (∀ j, j < hp.length → x.2[j]? = hp[j]?) ∧ MapR kS x.2 hp.length (vS ((ds.take x.1).map (·.name))) ∧ hp.length < x.2.length ∧ ∀ j (hj : j < ds.length), j < x.1 → ds[j].name ∉ (ds.take j).map (·.name))
    (fun i => ds.length - i.1) (0, _) rfl ⟨by simp, fun j hj => get_ext hj, MapR.new (by simp), by simp, by simp⟩ ?_
  rintro ⟨k, h2⟩ ⟨hk, he2, hm2, hl2, hv2⟩
  dsimp only at hk he2 hm2 hl2 hv2
  have hle := he.le
  have hx2 : Ext H h2 := fun j hj => (he2 j (by omega)).trans (hex j hj)
  have hbh2 : h2[H.length]? = _ := (he2 _ (by omega)).trans hbx
  simp +contextual (dsimp := false) [hbh2]
  refine ifA_dec (fun h9 => ?_) (fun h9 => ?_)
  · obtain ⟨id, o, c, e, f, ow, cs, Fi, E⟩ := SlR.get (Rp.ext hs hx2) k h9
    obtain ⟨hkk, s1, s2, G1, G2, rfl, hFi, hc1, hc2⟩ := E.rep
    obtain ⟨a1, z1, rfl⟩ := hc1.form
    obtain ⟨a2, z2, rfl⟩ := hc2.form
    simp +contextual (dsimp := false) [E.idx, E.goB, E.le, E.lt, E.ext]
    have hm3 : ∀ T : Heap, MapR kS (h2 ++ T) hp.length (vS ((ds.take k).map (·.name))) := fun T => hm2.fr (get_ext hl2)
    refine LookK.map (a := ds[k].name) keySB (hm3 _) ?_
    rw [getP_vS]
    by_cases hin : ds[k].name ∈ (ds.take k).map (·.name)
    · rw [if_pos hin, checkAcc_3 k1 k2 h9 hin hv2]
      simp +contextual (dsimp := false)
      simp [hx2]
    · rw [if_neg hin]
      simp +contextual (dsimp := false)
      refine UpdK.map (a := ds[k].name) keySB (hm3 _) rfl ?_
      intro es cl hmp
      rw [putP_new _ _ _ (by rw [vS_keys]; exact hin)] at hmp
      simp +contextual (dsimp := false) [wrap_succ (show k < 9223372036854775807 by omega)]
      refine LoopN.of (k + 1, _) rfl ⟨h9, fun j hj => (List.getElem?_set_ne (by omega)).trans ((get_ext (by omega)).trans (he2 j hj)), ?_, by simp; omega, fun j hj hlt => ?_⟩ (by dsimp only; omega)
      · dsimp only
        rw [List.take_succ_eq_append_getElem h9, List.map_append]
        simpa [vS] using hmp
      · rcases Nat.lt_or_ge j k with h | h
        · exact hv2 j hj h
        · obtain rfl : j = k := by dsimp only at hlt; omega
          exact hin
  have k3 : ∀ j (hj : j < ds.length), ds[j].name ∉ (ds.take j).map (·.name) := fun j hj => hv2 j hj (by omega)
  clear hv2
  have hw : IntKind.i64.wrap ((ds.length : Int) - 1) = ((ds.length - 1 : Nat) : Int) := (wrap_of ((ds.length : Int) - 1) (by omega) (by omega)).trans (by omega)
  simp +contextual (dsimp := false) [hbh2, hw]
  refine CallK.of ⟨_, Try.func58, rfl, rfl⟩ (listing_ac hbk (by omega) (Rp.ext hs hx2) (ds.length - 1) (by omega)) ?_
  rintro v S' ⟨so, m, Fo, rfl, he3, ho, hfo, hmp, hmm⟩
  have hbnd := (listing_ok hbk (show ds.length - 1 < ds.length by omega)).1
  have hall := listing_all hbk (show 0 < ds.length by omega)
  have hck4 := fun i => checkAcc_4 (i := i) k1 k2 k3
  have hck5 := checkAcc_5 k1 k2 k3
  generalize hL : listing ds (ds.length - 1) = L at *
  obtain ⟨ao, zo, rfl⟩ := ho.form
  have hlo := hbnd.bound
  have hx3 : Ext H S' := hx2.trans he3
  have hbS : S'[H.length]? = _ := (he3 _ (by omega)).trans hbh2
  simp +contextual (dsimp := false) [hbS]
  refine LoopA.upc (σ := Nat) [1, 10, 69, 70, 71] (fun i => [(71, int i)]) (fun i => i ≤ L.2.length ∧ ∀ j (hj : j < L.2.length), j < i → L.2[j] = j) (fun i => L.2.length - i) 0 rfl (by simp) ?_
  rintro q ⟨hq, hv⟩
  simp +contextual (dsimp := false)
  refine ifA_dec (fun h10 => ?_) (fun h10 => ?_)
  · obtain ⟨id, o, c, e, f, ow, cs, Fi, E⟩ := SlR.get ho q h10
    obtain ⟨rfl, rfl, hok⟩ := E.rep
    simp +contextual (dsimp := false) [E.idx, E.goB, E.le, E.cell0, wrap_succ (show q < 9223372036854775807 by omega)]
    refine ifA_dec (fun h11 => ?_) (fun h11 => ?_)
    · exact LoopN.of (q + 1) rfl ⟨h10, fun j hj hlt => by
        rcases Nat.lt_or_ge j q with h | h
        · exact hv j hj h
        · obtain rfl : j = q := by omega
          exact h11.symm⟩ (by omega)
    · rw [hck4 q h10 (fun hc => h11 hc.symm) hv]
      simp [hx3]
  have k4 : ∀ j (hj : j < L.2.length), L.2[j] = j := fun j hj => hv j hj (by omega)
  clear hv
  rw [hck5 k4]
  have hlen : L.2.length = ds.length := hall fun i hi => by simp [List.getD, hi]; exact k4 i hi
  have hvis : ∀ i, i < ds.length → ∃ d, ((i : Int), d) ∈ L.1 ∧ getP (i : Int) (vI L.1) = some (int d) ∧ (tooDeep ds L.1 i = (decide ((dAt ds i).kind = 3) && decide (60 ≤ d))) := by
    intro i hi
    have hm : (i : Int) ∈ L.1.map (·.1) := hbnd.sub _ (by rw [← k4 i (by omega)]; exact List.getElem_mem _)
    obtain ⟨p, hp1, hp2⟩ := List.mem_map.1 hm
    obtain ⟨a, d⟩ := p
    dsimp only at hp2
    subst hp2
    have hg := getP_vI _ L.1 hbnd.nd d hp1
    refine ⟨d, hp1, hg, ?_⟩
    unfold tooDeep
    congr 1
    rw [decide_eq_decide]
    constructor
    · rintro ⟨p, hpm, hpe, hpd⟩
      obtain ⟨a', d'⟩ := p
      dsimp only at hpe hpd
      subst hpe
      have := getP_vI _ L.1 hbnd.nd d' hpm
      rw [hg] at this
      simp at this
      omega
    · intro hd
      exact ⟨_, hp1, rfl, hd⟩
  simp +contextual (dsimp := false) [hbS]
  refine LoopA.up (σ := Nat × Heap) [10, 82, 83, 84] (fun i => [(84, int i.1)]) (fun i => i.2) (fun i => i.1 ≤ ds.length ∧ Ext S' i.2 ∧ ∀ j, j < i.1 → tooDeep ds L.1 j = false) (fun i => ds.length - i.1) (0, _) rfl ⟨by simp, Ext.refl _, by simp⟩ ?_
  rintro ⟨r, h4⟩ ⟨hr, he4, hv⟩
  dsimp only at hr he4 hv
  have hx4 : Ext H h4 := hx3.trans he4
  simp +contextual (dsimp := false)
  refine ifA_dec (fun h12 => ?_) (fun h12 => ?_)
  · obtain ⟨id, o, c, e, f, ow, cs, Fi, E⟩ := SlR.get (Rp.ext hs hx4) r h12
    obtain ⟨hkk, s1, s2, G1, G2, rfl, hFi, hc1, hc2⟩ := E.rep
    obtain ⟨a1, z1, rfl⟩ := hc1.form
    obtain ⟨a2, z2, rfl⟩ := hc2.form
    obtain ⟨d, hd1, hd2, hd3⟩ := hvis r h12
    rw [dAt_lt h12] at hd3
    have hm3 : ∀ T : Heap, MapR kI (h4 ++ T) m (vI L.1) := fun T => hmp.fr ((get_ext (Nat.lt_of_lt_of_le hmp.lt he4.le)).trans (he4 _ hmp.lt))
    by_cases q3 : ds[r].kind = 3
    · simp +contextual (dsimp := false) [E.idx, E.goB, E.le, E.lt, E.ext, q3]
      refine LookK.map (a := (r : Int)) keyI (hm3 _) ?_
      rw [hd2]
      simp +contextual (dsimp := false) [wrap_succ (show r < 9223372036854775807 by omega)]
      refine ifA_dec (fun h13 => ?_) (fun h13 => ?_)
      · rw [firstI_hit h12 (by rw [hd3]; simp [q3, h13]) hv]
        simp [hx4]
      · exact LoopN.of (r + 1, _) rfl ⟨h12, he4.trans (Ext.app _ _), fun j hlt => by
          rcases Nat.lt_or_ge j r with h | h
          · exact hv j h
          · obtain rfl : j = r := by dsimp only at hlt; omega
            rw [hd3]; simp [h13]⟩ (by dsimp only; omega)
    · simp +contextual (dsimp := false) [E.idx, E.goB, E.le, E.lt, E.ext, q3, wrap_succ (show r < 9223372036854775807 by omega)]
      exact LoopN.of (r + 1, _) rfl ⟨h12, he4.trans (Ext.app _ _), fun j hlt => by
        rcases Nat.lt_or_ge j r with h | h
        · exact hv j h
        · obtain rfl : j = r := by dsimp only at hlt; omega
          rw [hd3]; simp [q3]⟩ (by dsimp only; omega)
  rw [firstI_none fun j hj => hv j (by omega)]
  simp [hx4]
theorem accValid_ac {own : Bool} {ds : List Deed} {sd : Value} {FD : List Nat} {H : Heap} (hs : DeedsR own H ds [sd] FD) : AC Try.prog ng 70 [.agg #[sd]] H fun v S' => v = .bool (accOk ds) ∧ S' = H := by
  obtain ⟨ad, zd, rfl⟩ := hs.form
  refine .flat (AC.go [] Try.func70 rfl Try.ntmps70 rfl ⟨mixed, by kernel_rfl⟩ ?_)
  simp +contextual (dsimp := false)
  refine CallK.fl ⟨_, Try.func18, rfl, rfl⟩ (implCheckAccount_ac (Rp.ext hs (Ext.app _ _))) ?_
  simp +contextual (dsimp := false) [accOk]
end Go.Proofs.Ytehhjbomdohgoaa

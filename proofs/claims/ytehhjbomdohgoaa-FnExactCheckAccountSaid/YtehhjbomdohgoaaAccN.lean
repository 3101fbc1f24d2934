/- CheckAccount, the reference's. No condition. -/
import Derived.Test.YtehhjbomdohgoaaAccM
set_option linter.unusedSimpArgs false
set_option linter.unusedVariables false
namespace Go.Proofs.Ytehhjbomdohgoaa
open Go Go.Am Go.Proofs
set_option maxRecDepth 20000
variable {ng : Nat}
/-- Is it too deep? -/
def deepP (ds : List Deed) (p : Int × Int) : Prop := (dAt ds p.1.toNat).kind = 3 ∧ 60 ≤ p.2
theorem deepF (ds : List Deed) : ∀ (vis : List (Int × Int)) (m : Int), (∀ p ∈ vis, 0 ≤ p.1) → -1 ≤ m →
    ((vis.foldl (deepS ds) m = m ∧ ∀ p ∈ vis, deepP ds p → 0 ≤ m ∧ m ≤ p.1) ∨ ∃ p ∈ vis, deepP ds p ∧ vis.foldl (deepS ds) m = p.1 ∧ (0 ≤ m → p.1 < m) ∧ ∀ q ∈ vis, deepP ds q → p.1 ≤ q.1)
  | [], m, _, _ => .inl ⟨rfl, by simp⟩
  | p :: vis, m, h, hm => by
    have hp := h p (by simp)
    have hrec := fun m hm => deepF ds vis m (fun q hq => h q (by simp [hq])) hm
    rw [List.foldl_cons]
    by_cases hc : (dAt ds p.1.toNat).kind = 3 ∧ 60 ≤ p.2 ∧ (m < 0 ∨ p.1 < m)
    · have e : deepS ds m p = p.1 := if_pos hc
      rw [e]
      refine .inr ?_
      have hpd : deepP ds p := ⟨hc.1, hc.2.1⟩
      rcases hrec p.1 (by omega) with ⟨e1, h1⟩ | ⟨q, hq, h1, h2, h3, h4⟩
      · refine ⟨p, by simp, hpd, e1, fun h0 => by have := hc.2.2; omega, fun q hq hd => ?_⟩
        rcases List.mem_cons.1 hq with rfl | hq
        · exact Int.le_refl _
        · exact (h1 q hq hd).2
      · have := h3 hp
        refine ⟨q, by simp [hq], h1, h2, fun h0 => by have := hc.2.2; omega, fun r hr hd => ?_⟩
        rcases List.mem_cons.1 hr with rfl | hr
        · omega
        · exact h4 r hr hd
    · have e : deepS ds m p = m := if_neg hc
      rw [e]
      have hnd : deepP ds p → 0 ≤ m ∧ m ≤ p.1 := fun hd => by
        have : ¬ (m < 0 ∨ p.1 < m) := fun h' => hc ⟨hd.1, hd.2, h'⟩
        omega
      rcases hrec m hm with ⟨e1, h1⟩ | ⟨q, hq, h1, h2, h3, h4⟩
      · refine .inl ⟨e1, fun q hq hd => ?_⟩
        rcases List.mem_cons.1 hq with rfl | hq
        · exact hnd hd
        · exact h1 q hq hd
      · refine .inr ⟨q, by simp [hq], h1, h2, h3, fun r hr hd => ?_⟩
        rcases List.mem_cons.1 hr with rfl | hr
        · have := hnd hd
          have := h3 this.1
          omega
        · exact h4 r hr hd
theorem deepM_first {ds : List Deed} {st : List (Int × Int) × List Int} (hok : LOk ds.length st) :
    (firstI ds.length (tooDeep ds st.1) = none ∧ deepM ds st.1 < 0) ∨ ∃ i : Nat, firstI ds.length (tooDeep ds st.1) = some i ∧ deepM ds st.1 = i := by
  have hP : ∀ j : Nat, tooDeep ds st.1 j = true ↔ ∃ p ∈ st.1, p.1 = (j : Int) ∧ deepP ds p := by
    intro j
    simp only [tooDeep, Bool.and_eq_true, decide_eq_true_eq, deepP]
    constructor
    · rintro ⟨h, p, h1, h2, h3⟩
      exact ⟨p, h1, h2, by rw [h2]; exact h, h3⟩
    · rintro ⟨p, h1, h2, h3, h4⟩
      exact ⟨by rw [h2] at h3; exact h3, p, h1, h2, h4⟩
  rcases deepF ds st.1 (-1) (fun p hp => (hok.lt p hp).1) (by omega) with ⟨e, h⟩ | ⟨p, hp, h1, h2, h3, h4⟩
  · refine .inl ⟨firstI_none fun j hj => ?_, by unfold deepM; omega⟩
    rw [Bool.eq_false_iff]
    intro hc
    obtain ⟨p, h1, h2, h3⟩ := (hP j).1 hc
    have := h p h1 h3
    omega
  · have hl := hok.lt p hp
    refine .inr ⟨p.1.toNat, firstI_hit (by omega) ((hP _).2 ⟨p, hp, by omega, h1⟩) (fun j hj => ?_), by unfold deepM; omega⟩
    rw [Bool.eq_false_iff]
    intro hc
    obtain ⟨q, g1, g2, g3⟩ := (hP j).1 hc
    have := h4 q g1 g3
    omega
theorem metL_nil (n : Nat) : metL n [] = List.replicate n false := by
  apply List.ext_getElem
  · simp [metL]
  · intro j h1 h2
    simp [metL]
theorem l3Order_ac {own : Bool} {ds : List Deed} {sd : Value} {FD : List Nat} {H : Heap} (hbk : back ds) (hdl : ds.length ≤ 400) (hs : DeedsR own H ds [sd] FD) (root : Nat) (hr : root < ds.length) :
    AC Try.prog ng 55 [.agg #[sd], int root] H fun v S' => ∃ ph base sl Fl so Fo, v = .pointer (some ⟨ph, 0, none⟩) ∧ Ext H S' ∧ ListS own S' ds sd FD ph base sl Fl (listing ds root) so Fo := by
  obtain ⟨ad, zd, rfl⟩ := hs.form
  refine AC.go [(1, .take 1 <| .take 0 <| .take 2 <| .take 3 <| .one 4 [0] <| .take 5 <| .one 6 [] <| .take 7 <| .done)] Try.func55 rfl Try.ntmps55 rfl ⟨mixed, by kernel_rfl⟩ ?_
  simp +contextual (dsimp := false)
  obtain ⟨hm, hls⟩ := SlR.make (H := H ++ [(⟨.cells #[.slice ad ds.length zd] 43 (0, 0), true, true⟩ : Blk)]) (R := boolR) (m := ds.length) slt94 zer4 false (fun H => ⟨rfl, rfl, trivial⟩) (by omega) (by omega)
  refine MakeK.of hm ?_
  simp +contextual (dsimp := false)
  have hbl := metL_len ds.length []
  refine CallK.of ⟨_, Try.func102, rfl, rfl⟩ (list_ac (own := own) (ds := ds) (sd := .slice ad ds.length zd) (FD := FD) (ph := H.length + 2) (base := H.length + 3) (sl := .slice (some ⟨H.length + 1, 0, none⟩) ds.length 1) (Fl := [H.length + 1]) hbk hdl ds.length root 0 _ ([], []) (.slice none 0 0) [] hr hr (by omega) (by omega) (LOk.start _) (by simp)
    ⟨by simp [deepM], ?_, by simp, SlR.nil, Fresh.nil _, by simp, Rp.ext hs (Ext.app _ _), fun j hj => by have := Rp.lt hs j hj; simp; omega⟩) ?_
  · rw [metL_nil]
    try simp only [List.append_assoc, List.cons_append, List.nil_append] at hls ⊢
    simp only [List.length_append, List.length_singleton] at hls
    exact Rp.ext hls (by first | exact Ext.app _ _ | exact Ext.refl _ | (refine Ext.of ?_; simp))
  rintro v S' ⟨rfl, so, Fo, W, hfr, hFs, hle⟩
  simp +contextual (dsimp := false)
  refine ⟨fun j hj => (hfr j (by simp; omega) (by omega) (by simp; omega) (by simp)).trans (get_ext hj), _, _, _, _, _, W⟩
set_option maxHeartbeats 2000000 in
theorem specCheckAccount_ac {own : Bool} {ds : List Deed} {sd : Value} {FD : List Nat} {H : Heap} (hs : DeedsR own H ds [sd] FD) : AC Try.prog ng 16 [.agg #[sd]] H fun v S' => v = .tuple #[int (checkAcc ds).1, int (checkAcc ds).2] ∧ S' = H := by
  obtain ⟨ad, zd, rfl⟩ := hs.form
  have hb := hs.bound
  refine .flat (AC.go [] Try.func16 rfl Try.ntmps16 rfl ⟨mixed, by kernel_rfl⟩ ?_)
  by_cases k1 : ds.length = 0 ∨ 400 < ds.length
  · rw [checkAcc_1 k1]
    rcases k1 with h | h
    · simp +contextual (dsimp := false) [h]
    · simp +contextual (dsimp := false) [show ¬ (ds.length : Int) < 1 by omega, show ¬ ds.length = 0 by omega, show (400 : Int) < ds.length by omega, show ¬ ds = [] by rintro rfl; simp at h]
  have k0 : ¬ ds = [] := by rintro rfl; simp at k1
  simp +contextual (dsimp := false) [show ¬ (ds.length : Int) < 1 by omega, show ¬ ds.length = 0 by omega, k0, show ¬ (400 : Int) < ds.length by omega]
  obtain ⟨H0, hH0⟩ : ∃ H0, H0 = H ++ [(⟨.cells #[.slice ad ds.length zd] 43 (0, 0), true, true⟩ : Blk)] := ⟨_, rfl⟩
  have hl0 : H.length < H0.length := by rw [hH0]; simp
  have hx0 : Ext H H0 := by rw [hH0]; exact Ext.app _ _
  have hb0 : H0[H.length]? = some (⟨.cells #[.slice ad ds.length zd] 43 (0, 0), true, true⟩ : Blk) := by rw [hH0]; simp
  rw [← hH0]
  refine LoopA.up (σ := Nat × Heap) [1, 4, 5] (fun i => [(5, int i.1)]) (fun i => i.2) (fun i => i.1 ≤ ds.length ∧ Ext H0 i.2 ∧ ∀ j (hj : j < ds.length), j < i.1 → deedOk ds j ds[j] = true) (fun i => ds.length - i.1) (0, _) rfl ⟨by simp, Ext.refl _, by simp⟩ ?_
  rintro ⟨i, hp⟩ ⟨hi, he, hv⟩
  dsimp only at hi he hv
  have hex : Ext H hp := hx0.trans he
  have hbx : hp[H.length]? = _ := (he _ hl0).trans hb0
  simp +contextual (dsimp := false) [hbx]
  refine ifA_dec (fun h3 => ?_) (fun h3 => ?_)
  · refine CallK.fl ⟨_, Try.func54, rfl, rfl⟩ (l3DeedOk_ac (Rp.ext hs hex) i h3) ?_
    simp +contextual (dsimp := false) [wrap_succ (show i < 9223372036854775807 by omega)]
    refine ifA_intro (fun h4 => ?_) (fun h4 => ?_)
    · exact LoopN.of (i + 1, _) rfl ⟨h3, he, fun j hj hlt => by
        rcases Nat.lt_or_ge j i with h | h
        · exact hv j hj h
        · obtain rfl : j = i := by dsimp only at hlt; omega
          exact h4⟩ (by dsimp only; omega)
    · rw [checkAcc_2 k1 h3 h4 hv]
      simp [hex]
  have k2 : ∀ j (hj : j < ds.length), deedOk ds j ds[j] = true := fun j hj => hv j hj (by omega)
  have hbk : back ds := deedOk_back fun i hi => by rw [dAt_lt hi]; exact k2 i hi
  clear hv
  refine LoopA.up (σ := Nat × Heap) [1, 4, 6] (fun i => [(6, int i.1)]) (fun i => i.2) (fun x => x.1 ≤ ds.length ∧ Ext hp x.2 ∧ ∀ j (hj : j < ds.length), j < x.1 → ds[j].name ∉ (ds.take j).map (·.name)) (fun i => ds.length - i.1) (0, _) rfl ⟨by simp, Ext.refl _, by simp⟩ ?_
  rintro ⟨k, h2⟩ ⟨hk, he2, hv2⟩
  dsimp only at hk he2 hv2
  have hx2 : Ext H h2 := hex.trans he2
  have hle := he.le
  have hbh2 : h2[H.length]? = _ := (he2 _ (by omega)).trans hbx
  simp +contextual (dsimp := false) [hbh2]
  refine ifA_dec (fun h9 => ?_) (fun h9 => ?_)
  · have hbk2 := Rp.ext hs hx2
    refine LoopA.up (σ := Nat × Heap) [1, 4, 6, 7] (fun i => [(7, int i.1)]) (fun i => i.2) (fun x => x.1 ≤ k ∧ Ext h2 x.2 ∧ ∀ j (hj : j < ds.length), j < x.1 → ds[j].name ≠ ds[k].name) (fun i => k - i.1) (0, _) rfl ⟨by simp, Ext.refl _, by simp⟩ ?_
    rintro ⟨q, h5⟩ ⟨hq, he5, hv5⟩
    dsimp only at hq he5 hv5
    have hx5 : Ext H h5 := hx2.trans he5
    have hbh5 : h5[H.length]? = _ := (he5 _ (by have := he2.le; omega)).trans hbh2
    simp +contextual (dsimp := false) [hbh5]
    refine ifA_dec (fun h10 => ?_) (fun h10 => ?_)
    · obtain ⟨id, o, c, e, f, ow, cs, Fi, E⟩ := SlR.get (Rp.ext hs hx5) q (by omega)
      obtain ⟨hkk, s1, s2, G1, G2, rfl, hFi, hc1, hc2⟩ := E.rep
      obtain ⟨a1, z1, rfl⟩ := hc1.form
      obtain ⟨a2, z2, rfl⟩ := hc2.form
      obtain ⟨id', o', c', e', f', ow', cs', Fi', E'⟩ := SlR.get (Rp.ext hs hx5) k h9
      obtain ⟨hkk', s1', s2', G1', G2', rfl, hFi', hc1', hc2'⟩ := E'.rep
      obtain ⟨a1', z1', rfl⟩ := hc1'.form
      obtain ⟨a2', z2', rfl⟩ := hc2'.form
      simp +contextual (dsimp := false) [hbh5, E.idx, E.goB, E.le, E.lt, E.ext, E.cell0 (by decide), E'.idx, E'.goB, E'.le, E'.lt, E'.ext, E'.cell0 (by decide), wrap_succ (show q < 9223372036854775807 by omega)]
      refine ifA_dec (fun h11 => ?_) (fun h11 => ?_)
      · rw [checkAcc_3 k1 k2 h9 (List.mem_map.2 ⟨ds[q], List.mem_take_iff_getElem.2 ⟨q, by omega, rfl⟩, h11⟩) hv2]
        simp [hx5]
      · exact LoopN.of (q + 1, _) rfl ⟨h10, he5, fun j hj hlt => by
          rcases Nat.lt_or_ge j q with h | h
          · exact hv5 j hj h
          · obtain rfl : j = q := by dsimp only at hlt; omega
            exact h11⟩ (by dsimp only; omega)
    · simp +contextual (dsimp := false) [wrap_succ (show k < 9223372036854775807 by omega)]
      exact LoopN.of (k + 1, _) rfl ⟨h9, he2.trans he5, fun j hj hlt => by
        rcases Nat.lt_or_ge j k with h | h
        · exact hv2 j hj h
        · obtain rfl : j = k := by dsimp only at hlt; omega
          intro hm
          obtain ⟨d, hd, hn⟩ := List.mem_map.1 hm
          obtain ⟨r, hr, rfl⟩ := List.mem_take_iff_getElem.1 hd
          exact hv5 r (by omega) (by omega) hn⟩ (by dsimp only; omega)
  have k3 : ∀ j (hj : j < ds.length), ds[j].name ∉ (ds.take j).map (·.name) := fun j hj => hv2 j hj (by omega)
  clear hv2
  have hw : IntKind.i64.wrap ((ds.length : Int) - 1) = ((ds.length - 1 : Nat) : Int) := by rw [wrap_of _ (by omega) (by omega)]; omega
  simp +contextual (dsimp := false) [hw, hbh2]
  refine CallK.of ⟨_, Try.func55, rfl, rfl⟩ (l3Order_ac hbk (by omega) (Rp.ext hs hx2) (ds.length - 1) (by omega)) ?_
  rintro v S' ⟨ph, base, sl, Fl, so, Fo, rfl, he3, W⟩
  have hbnd := (listing_ok hbk (show ds.length - 1 < ds.length by omega)).1
  have hall := listing_all hbk (show 0 < ds.length by omega)
  have hck4 := fun i => checkAcc_4 (i := i) k1 k2 k3
  have hck5 := checkAcc_5 k1 k2 k3
  have hdm := deepM_first hbnd
  generalize hL : listing ds (ds.length - 1) = L at *
  obtain ⟨ao, zo, hso⟩ := W.ord.form
  subst hso
  have hlo := hbnd.bound
  have hx3 : Ext H S' := hx2.trans he3
  have hWb := W.bh
  simp +contextual (dsimp := false)
  refine LoopA.upc (σ := Nat) [4, 8, 9] (fun i => [(9, int i)]) (fun i => i ≤ ds.length ∧ ∀ j (hj : j < L.2.length), j < i → L.2[j] = j) (fun i => ds.length - i) 0 rfl (by simp) ?_
  rintro q ⟨hq, hv⟩
  simp +contextual (dsimp := false)
  refine ifA_dec (fun h10 => ?_) (fun h10 => ?_)
  · have hql : q < L.2.length := by
      rcases Nat.lt_or_ge q L.2.length with h | h
      · exact h
      · have := hall fun i hi => by
          have := hv i hi (by omega)
          simp [List.getD, hi, this]
        omega
    obtain ⟨id, o, c, e, f, ow, cs, Fi, E⟩ := SlR.get W.ord q hql
    obtain ⟨rfl, rfl, -⟩ := E.rep
    simp +contextual (dsimp := false) [hWb, show ¬ L.2.length ≤ q by omega, E.idx, E.goB, E.le, E.lt, E.ext, E.cell0 (by decide), wrap_succ (show q < 9223372036854775807 by omega)]
    refine ifA_dec (fun h11 => ?_) (fun h11 => ?_)
    · exact LoopN.of (q + 1) rfl ⟨h10, fun j hj hlt => by
        rcases Nat.lt_or_ge j q with h | h
        · exact hv j hj h
        · obtain rfl : j = q := by omega
          exact h11⟩ (by omega)
    · rw [hck4 q hql h11 hv]
      exact ⟨⟨rfl, rfl⟩, hx3⟩
  · rw [hck5 fun j hj => hv j hj (by omega)]
    rcases hdm with ⟨e1, e2⟩ | ⟨m, e1, e2⟩
    · rw [e1]
      simp +contextual (dsimp := false) [hWb, show ¬ 0 ≤ deepM ds L.1 by omega, hx3]
    · rw [e1]
      rw [e2] at hWb
      simp +contextual (dsimp := false) [hWb, hx3]
theorem l3Ok_ac {own : Bool} {ds : List Deed} {sd : Value} {FD : List Nat} {H : Heap} (hs : DeedsR own H ds [sd] FD) : AC Try.prog ng 68 [.agg #[sd]] H fun v S' => v = .bool (accOk ds) ∧ S' = H := by
  obtain ⟨ad, zd, rfl⟩ := hs.form
  refine .flat (AC.go [] Try.func68 rfl Try.ntmps68 rfl ⟨mixed, by kernel_rfl⟩ ?_)
  simp +contextual (dsimp := false)
  refine CallK.fl ⟨_, Try.func16, rfl, rfl⟩ (specCheckAccount_ac (Rp.ext hs (Ext.app _ _))) ?_
  simp +contextual (dsimp := false) [accOk]
end Go.Proofs.Ytehhjbomdohgoaa

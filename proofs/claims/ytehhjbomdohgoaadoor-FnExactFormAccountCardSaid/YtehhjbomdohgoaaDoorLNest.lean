/- The exact laws' helpers for records with lists. No condition. -/
import Derived.Test.YtehhjbomdohgoaaDoorStr
import Derived.Test.YtehhjbomdohgoaaDoorDat2
import Derived.Test.YtehhjbomdohgoaaDoorF2
import Derived.Test.YtehhjbomdohgoaaDoorLFlat
set_option linter.unusedSimpArgs false
set_option linter.unusedVariables false
namespace Go.Proofs.YtehhjbomdohgoaaDoor
open Go Go.Am Go.Proofs
set_option maxRecDepth 20000
set_option linter.unusedSimpArgs false
set_option linter.unusedVariables false
variable {ng : Nat}
theorem szDeed_ac {own : Bool} {x : Deed} {c : List Value} {F : List Nat} {H : Heap} (h : DeedR own H x c F) (left : Int) (hl : 0 ≤ left ∧ left ≤ 1048576) : AC Tryd.prog ng 89 [.agg c.toArray, int left] H fun v S' => v = int (szR left x.w) ∧ S' = H := by
  obtain ⟨hk, s1, s2, G1, G2, rfl, rfl, hc1, hc2⟩ := h
  obtain ⟨a1, z1, rfl⟩ := hc1.form
  obtain ⟨a2, z2, rfl⟩ := hc2.form
  obtain ⟨ho0, ho1, ho2, ho3⟩ := hk
  unfold okS at *
  have hw0 : IntKind.i64.wrap (left - x.name.length) = left - x.name.length := wrap_of _ (by omega) (by omega)
  have hw1 : IntKind.i64.wrap (left - x.name.length - x.text.length) = left - x.name.length - x.text.length := wrap_of _ (by omega) (by omega)
  refine .flat (AC.go [] Tryd.func89 rfl Tryd.ntmps89 rfl ⟨mixed, by kernel_rfl⟩ ?_)
  simp +contextual (dsimp := false) [hw0, hw1]
  refine ifA_dec (fun _ => ?_) (fun _ => ?_)
  · rw [szR_neg (by simp only [Deed.w]; omega)]
  refine ifA_dec (fun _ => ?_) (fun _ => ?_)
  · rw [szR_neg (by simp only [Deed.w]; omega)]
  refine CallK.fl ⟨_, Tryd.func15, rfl, rfl⟩ (szProgram_ac (Rp.ext hc1 (Ext.app _ _)) (left - x.name.length - x.text.length) (by omega)) ?_
  simp +contextual (dsimp := false)
  refine ifA_dec (fun h => ?_) (fun h => ?_)
  · rw [szR_lt (by omega)] at h
    rw [szR_neg (by simp only [Deed.w]; omega)]
  rw [szR_lt (by omega)] at h
  rw [szR_ge (by omega)]
  refine CallK.fl ⟨_, Tryd.func110, rfl, rfl⟩ (szLinkS_ac (Rp.ext hc2 (Ext.app _ _)) (left - x.name.length - x.text.length - (wL Ins.w x.action : Nat)) (by omega)) ?_
  simp +contextual (dsimp := false)
  refine ifA_dec (fun h => ?_) (fun h => ?_)
  · rw [szR_lt (by omega)] at h
    rw [szR_neg (by simp only [Deed.w]; omega)]
  rw [szR_lt (by omega)] at h
  rw [szR_ge (by omega), szR_ge (by simp only [Deed.w]; omega)]
  simp only [Deed.w]
  try simp
  try omega
theorem toDeed_ac {own : Bool} {x : Deed} {c : List Value} {F : List Nat} {H : Heap} (h : DeedR own H x c F) (hl : x.w ≤ 1048576) : AC Tryd.prog ng 92 [.agg c.toArray] H fun v S' => ∃ c' F', v = .agg c'.toArray ∧ Ext H S' ∧ DeedR true S' x c' F' ∧ Fresh H.length F' := by
  obtain ⟨hk, s1, s2, G1, G2, rfl, rfl, hc1, hc2⟩ := h
  obtain ⟨a1, z1, rfl⟩ := hc1.form
  obtain ⟨a2, z2, rfl⟩ := hc2.form
  obtain ⟨ho0, ho1, ho2, ho3⟩ := hk
  refine AC.go [] Tryd.func92 rfl Tryd.ntmps92 rfl ⟨mixed, by kernel_rfl⟩ ?_
  simp +contextual (dsimp := false)
  refine CallK.of ⟨_, Tryd.func17, rfl, rfl⟩ (toProgram_ac (Rp.ext hc1 (Ext.app _ _)) (by have := wL_le Ins.w x.action; simp only [Deed.w] at hl; omega)) ?_
  rintro v S1 ⟨u1, D1, rfl, he1, hv1, hf1⟩
  obtain ⟨b1, y1, rfl⟩ := hv1.form
  obtain ⟨X1, rfl⟩ := he1.split
  try simp only [List.append_assoc, List.cons_append, List.nil_append] at hv1 ⊢
  simp [Fresh] at hf1
  simp +contextual (dsimp := false)
  refine CallK.of ⟨_, Tryd.func113, rfl, rfl⟩ (toLinkS_ac (Rp.ext hc2 (Ext.app _ _)) (by simp only [Deed.w] at hl; omega)) ?_
  rintro v S2 ⟨D2, he2, hv2, hf2⟩
  obtain ⟨b2, y2, rfl⟩ := hv2.form
  obtain ⟨X2, rfl⟩ := he2.split
  try simp only [List.append_assoc, List.cons_append, List.nil_append] at hv2 ⊢
  simp [Fresh] at hf2
  simp +contextual (dsimp := false)
  refine ⟨D1 ++ D2, ⟨⟨ho0, ho1, ho2, ho3⟩, _, _, D1, D2, rfl, rfl, Rp.fr hv1 fun i hi => by exact fr3 (hf1.1 i hi) (Rp.lt hv1 i hi), Rp.fr hv2 fun i hi => by exact fr_drop 3 (by rfl) (by have := hf2.1 i hi; omega)⟩, fun i hi => ?_, List.nodup_append.2 ⟨hf1.2, hf2.2, fun a ha b hb hab => ?_⟩⟩
  · rcases List.mem_append.1 hi with h | h
    · have := hf1.1 i h; omega
    · have := hf2.1 i h; omega
  · subst hab
    have h1 := Rp.lt hv1 a ha
    have h2 := hf2.1 a hb
    simp only [List.length_append, List.length_cons] at h1
    omega
theorem eqDeed_ac {o1 o2 : Bool} {x y : Deed} {c1 c2 : List Value} {F1 F2 : List Nat} {H : Heap} (h1 : DeedR o1 H x c1 F1) (h2 : DeedR o2 H y c2 F2) : AC Tryd.prog ng 94 [.agg c1.toArray, .agg c2.toArray] H fun v S' => v = .bool (decide (x = y)) ∧ S' = H := by
  obtain ⟨hk, s1, s2, G1, G2, rfl, rfl, hc1, hc2⟩ := h1
  obtain ⟨hk', s'1, s'2, G'1, G'2, rfl, rfl, hc'1, hc'2⟩ := h2
  obtain ⟨a1, z1, rfl⟩ := hc1.form
  obtain ⟨a2, z2, rfl⟩ := hc2.form
  obtain ⟨a'1, z'1, rfl⟩ := hc'1.form
  obtain ⟨a'2, z'2, rfl⟩ := hc'2.form
  refine .flat (AC.go [] Tryd.func94 rfl Tryd.ntmps94 rfl ⟨mixed, by kernel_rfl⟩ ?_)
  simp +contextual (dsimp := false) [str_eq]
  refine ifA_dec (fun h3 => ?_) (fun h3 => ?_)
  rotate_left
  · try simp
    rintro rfl
    exact h3 rfl
  refine ifA_dec (fun h3 => ?_) (fun h3 => ?_)
  rotate_left
  · try simp
    rintro rfl
    exact h3 rfl
  refine ifA_dec (fun h3 => ?_) (fun h3 => ?_)
  rotate_left
  · try simp
    rintro rfl
    exact h3 rfl
  refine ifA_dec (fun h3 => ?_) (fun h3 => ?_)
  rotate_left
  · try simp
    rintro rfl
    exact h3 rfl
  refine CallK.fl ⟨_, Tryd.func19, rfl, rfl⟩ (eqProgram_ac (Rp.ext hc1 (Ext.app _ _)) (Rp.ext hc'1 (Ext.app _ _))) ?_
  simp +contextual (dsimp := false)
  refine ifA_dec (fun h3 => ?_) (fun h3 => ?_)
  rotate_left
  · try simp
    rintro rfl
    exact h3 rfl
  refine CallK.fl ⟨_, Tryd.func116, rfl, rfl⟩ (eqLinkS_ac (Rp.ext hc2 (Ext.app _ _)) (Rp.ext hc'2 (Ext.app _ _))) ?_
  simp +contextual (dsimp := false)
  cases x
  cases y
  simp_all [ifA_ite]
theorem szDeedS_ac {own : Bool} {l : List Deed} {s : Value} {F : List Nat} {H : Heap} (hs : DeedsR own H l [s] F) (left : Int) (hl : 0 ≤ left ∧ left ≤ 1048576) : AC Tryd.prog ng 59 [s, int left] H fun v S' => v = int (szR left (wL Deed.w l)) ∧ S' = H := by
  obtain ⟨a, z, rfl⟩ := hs.form
  have hb := hs.bound
  refine .flat (AC.go [] Tryd.func59 rfl Tryd.ntmps59 rfl ⟨mixed, by kernel_rfl⟩ ?_)
  have hw : IntKind.i64.wrap (left - (l.length : Int)) = left - l.length := wrap_of _ (by omega) (by omega)
  simp +contextual (dsimp := false) [hw]
  refine ifA_dec (fun h => ?_) (fun h => ?_)
  · rw [szR_neg (by unfold wL; omega)]
  refine LoopA.up (σ := Nat) [0, 1, 5] (fun i => [(1, int (left - l.length - wS Deed.w l i)), (5, int i)]) (fun i => H) (fun i => i ≤ l.length ∧ 0 ≤ left - l.length - wS Deed.w l i) (fun i => l.length - i) 0
    (by simp) (by simp; omega) ?_
  rintro i ⟨hi, hv⟩
  simp +contextual (dsimp := false)
  refine ifA_dec (fun h3 => ?_) (fun h3 => ?_)
  · obtain ⟨id, o, c, e, f, ow, cs, Fi, E⟩ := SlR.get hs i h3
    have hrep0 := E.rep; obtain ⟨hk, s1, s2, G1, G2, rfl, rfl, hc1, hc2⟩ := E.rep
    simp +contextual (dsimp := false) [E.idx, E.goB, E.lt, E.le, E.ext]
    refine CallK.fl ⟨_, Tryd.func89, rfl, rfl⟩ (szDeed_ac hrep0 _ (by omega)) ?_
    simp +contextual (dsimp := false) [wrap_succ (show i < 9223372036854775807 by omega)]
    have hst := wS_s Deed.w l i h3
    have hsl := wS_le Deed.w l (i + 1)
    refine ifA_dec (fun h4 => ?_) (fun h4 => ?_)
    · rw [szR_lt hv] at h4
      rw [szR_neg (by omega)]
    · rw [szR_lt hv] at h4
      refine LoopN.of (i + 1) ?_ ⟨h3, by omega⟩ (by omega)
      rw [szR_ge (by omega), show left - l.length - wS Deed.w l i - l[i].w = left - l.length - wS Deed.w l (i + 1) by omega]
      simp
  · have := wS_all Deed.w l i (by omega)
    rw [szR_ge (by omega)]
    try simp
    omega
theorem toDeedS_ac {own : Bool} {l : List Deed} {s : Value} {F : List Nat} {H : Heap} (hs : DeedsR own H l [s] F) (hl : wL Deed.w l ≤ 1048576) : AC Tryd.prog ng 62 [s] H fun v S' => ∃ F', Ext H S' ∧ DeedsR true S' l [v] F' ∧ Fresh H.length F' := by
  obtain ⟨a, z, rfl⟩ := hs.form
  have hb := hs.bound
  have hll := wL_le Deed.w l
  refine AC.go [] Tryd.func62 rfl Tryd.ntmps62 rfl ⟨mixed, by kernel_rfl⟩ ?_
  simp +contextual (dsimp := false)
  obtain ⟨hm, hr⟩ := SlR.make (H := H) (R := (DeedR true)) slt59 zer113 Deed.zero (fun H => Deed.zero_rep H) (show l.length * 96 ≤ 281474976710656 by omega) hb
  refine MakeK.of hm ?_
  simp +contextual (dsimp := false)
  refine LoopA.up (σ := Nat × Heap × List Nat) [0, 3, 4] (fun x => [(4, int x.1)]) (fun x => x.2.1)
    (fun x => x.1 ≤ l.length ∧ Ext H x.2.1 ∧ DeedsR true x.2.1 (partL l Deed.zero x.1) [.slice (some ⟨H.length, 0, none⟩) l.length 6] x.2.2 ∧ Fresh H.length x.2.2) (fun x => l.length - x.1) (0, _, [H.length]) rfl ⟨by simp, by simp, by rw [partL_z]; exact hr, by simp [Fresh]⟩ ?_
  rintro ⟨i, hp, F1⟩ ⟨hi, he, hv, hf⟩
  dsimp only at hi he hv hf
  simp +contextual (dsimp := false)
  refine ifA_dec (fun h3 => ?_) (fun h3 => ?_)
  · obtain ⟨id, o, c, e, f, ow, cs, Fi, E⟩ := SlR.get (Rp.ext hs he) i h3
    have hrep0 := E.rep; obtain ⟨hk, s1, s2, G1, G2, rfl, rfl, hc1, hc2⟩ := E.rep
    simp +contextual (dsimp := false) [E.idx, E.goB, E.lt, E.le, E.ext]
    have hwm := wL_mem Deed.w (List.getElem_mem h3)
    refine CallK.of ⟨_, Tryd.func92, rfl, rfl⟩ (toDeed_ac hrep0 (by omega)) ?_
    rintro v S' ⟨c1, F2, rfl, he2, hv2, hf2⟩
    have hv1 := Rp.ext hv he2
    obtain ⟨id', o', c', e', f', ow', cs', Fi', E'⟩ := SlR.get hv1 i (by rw [partL_length _ _ _ hi]; exact h3)
    obtain rfl := E'.own' rfl
    have hc1 := Rp.len hv2
    have hc2 := Rp.one hv2
    have hle' := E'.le
    simp +contextual (dsimp := false) [wrap_succ (show i < 9223372036854775807 by omega), E'.idx, E'.goB, E'.le, E'.lt, lenV_eq, hc1, hc2, onesV]
    have hidF := hf.1 _ E'.mem
    obtain ⟨F3, q1, q2, q3, q4, q5, q6, q7⟩ := E'.upd hf.2 (fun _ => rfl) (S'.set id' ⟨.cells (setL c' o' c1) e' f', true, true⟩) (setL c' o' c1) l[i] c1 F2 (List.getElem?_set_self E'.lt) (setL_size _ _ _) hc1
      (fun j hj => by rw [setL_get _ _ _ _ (by omega), if_pos (by omega)]; congr 1; omega) (fun j hj => by rw [setL_get _ _ _ _ (by omega), if_neg (by omega)])
      (Rp.fr hv2 fun j hj => List.getElem?_set_ne (by rintro rfl; have := hf2.1 _ hj; have := Rp.lt hv _ E'.mem; omega)) (fun j hj hne _ => List.getElem?_set_ne (Ne.symm hne))
    rw [partL_s _ _ _ h3] at q1
    refine LoopN.of (i + 1, _, F3) rfl ⟨h3, (he.trans he2).set hidF _, q1, fun j hj => ?_, q4 hf2.2 fun j hj hj2 => ?_⟩ (by dsimp only; omega)
    · rcases q3 j hj with h | h
      · exact hf.1 j h
      · have := hf2.1 j h; have := he.le; omega
    · have := hf2.1 j hj; have := Rp.lt hv j hj2; omega
  · rw [partL_all _ _ _ (by omega)] at hv
    first | exact ⟨he, F1, hv, hf⟩ | exact ⟨F1, he, hv, hf⟩
theorem eqDeedS_ac {o1 o2 : Bool} {l1 l2 : List Deed} {s1 s2 : Value} {F1 F2 : List Nat} {H : Heap} (hs1 : DeedsR o1 H l1 [s1] F1) (hs2 : DeedsR o2 H l2 [s2] F2) : AC Tryd.prog ng 66 [s1, s2] H fun v S' => v = .bool (decide (l1 = l2)) ∧ S' = H := by
  obtain ⟨a1, z1, rfl⟩ := hs1.form
  obtain ⟨a2, z2, rfl⟩ := hs2.form
  have hb := hs1.bound
  refine .flat (AC.go [] Tryd.func66 rfl Tryd.ntmps66 rfl ⟨mixed, by kernel_rfl⟩ ?_)
  simp +contextual (dsimp := false)
  refine ifA_dec (fun h => ?_) (fun h => ?_)
  · refine LoopA.up (σ := Nat) [0, 1, 5] (fun i => [(5, int i)]) (fun i => H) (fun i => i ≤ l1.length ∧ l1.take i = l2.take i) (fun i => l1.length - i) 0 (by simp) (by simp) ?_
    rintro i ⟨hi, hv⟩
    simp +contextual (dsimp := false)
    refine ifA_dec (fun h3 => ?_) (fun h3 => ?_)
    · obtain ⟨id, o, c, e, f, ow, cs, Fi, E⟩ := SlR.get hs1 i h3
      have hrep0 := E.rep; obtain ⟨hk, s1, s2, G1, G2, rfl, rfl, hc1, hc2⟩ := E.rep
      obtain ⟨id', o', c', e', f', ow', cs', Fi', E'⟩ := SlR.get hs2 i (by omega)
      have hrep0' := E'.rep; obtain ⟨hk', s'1, s'2, G'1, G'2, rfl, rfl, hc'1, hc'2⟩ := E'.rep
      simp +contextual (dsimp := false) [E.idx, E.goB, E.lt, E.le, E.ext, E'.idx, E'.goB, E'.lt, E'.le, E'.ext]
      refine CallK.fl ⟨_, Tryd.func94, rfl, rfl⟩ (eqDeed_ac hrep0 hrep0') ?_
      simp +contextual (dsimp := false) [wrap_succ (show i < 9223372036854775807 by omega)]
      refine ifA_dec (fun h4 => ?_) (fun h4 => ?_)
      · refine LoopN.of (i + 1) rfl ⟨h3, ?_⟩ (by omega)
        rw [List.take_succ_eq_append_getElem h3, List.take_succ_eq_append_getElem (show i < l2.length by omega), hv, h4]
      · try simp
        rintro rfl
        exact h4 rfl
    · rw [List.take_of_length_le (by omega), List.take_of_length_le (by omega)] at hv
      simp [hv]
  · try simp
    rintro rfl
    exact h rfl
end Go.Proofs.YtehhjbomdohgoaaDoor

/- The exact laws' helpers for spaces and accounts. No condition. -/
import Derived.Test.YtehhjbomdohgoaaLNest
set_option linter.unusedSimpArgs false
set_option linter.unusedVariables false
namespace Go.Proofs.Ytehhjbomdohgoaa
open Go Go.Am Go.Proofs
set_option maxRecDepth 20000
variable {ng : Nat}
theorem szSpace_ac {own : Bool} {x : Spc} {c : List Value} {F : List Nat} {H : Heap} (h : SpcR own H x c F) (left : Int) (hl : 0 ≤ left ∧ left ≤ 1048576) : AC Try.prog ng 10 [.agg c.toArray, int left] H fun v S' => v = int (szR left x.w) ∧ S' = H := by
  obtain ⟨s1, s2, G1, G2, rfl, rfl, hc1, hc2⟩ := h
  obtain ⟨a1, z1, rfl⟩ := hc1.form
  obtain ⟨a2, z2, rfl⟩ := hc2.form
  refine .flat (AC.go [] Try.func10 rfl Try.ntmps10 rfl ⟨mixed, by kernel_rfl⟩ ?_)
  simp +contextual (dsimp := false)
  refine CallK.fl ⟨_, Try.func41, rfl, rfl⟩ (szSourceS_ac (Rp.ext hc1 (Ext.app _ _)) left hl) ?_
  simp +contextual (dsimp := false)
  refine ifA_dec (fun h => ?_) (fun h => ?_)
  · rw [szR_lt hl.1] at h
    rw [szR_neg (by simp only [Spc.w]; omega)]
  rw [szR_lt hl.1] at h
  rw [szR_ge (by omega)]
  refine CallK.fl ⟨_, Try.func42, rfl, rfl⟩ (szTargetS_ac (Rp.ext hc2 (Ext.app _ _)) (left - (wL Sou.w x.sources : Nat)) (by omega)) ?_
  simp +contextual (dsimp := false)
  refine ifA_dec (fun h => ?_) (fun h => ?_)
  · rw [szR_lt (by omega)] at h
    rw [szR_neg (by simp only [Spc.w]; omega)]
  rw [szR_lt (by omega)] at h
  rw [szR_ge (by omega), szR_ge (by simp only [Spc.w]; omega)]
  simp only [Spc.w]
  omega
theorem toSpace_ac {own : Bool} {x : Spc} {c : List Value} {F : List Nat} {H : Heap} (h : SpcR own H x c F) (hl : x.w ≤ 1048576) : AC Try.prog ng 12 [.agg c.toArray] H fun v S' => ∃ c' F', v = .agg c'.toArray ∧ Ext H S' ∧ SpcR true S' x c' F' ∧ Fresh H.length F' := by
  obtain ⟨s1, s2, G1, G2, rfl, rfl, hc1, hc2⟩ := h
  obtain ⟨a1, z1, rfl⟩ := hc1.form
  obtain ⟨a2, z2, rfl⟩ := hc2.form
  refine AC.go [] Try.func12 rfl Try.ntmps12 rfl ⟨mixed, by kernel_rfl⟩ ?_
  simp +contextual (dsimp := false)
  refine CallK.of ⟨_, Try.func46, rfl, rfl⟩ (toSourceS_ac (Rp.ext hc1 (Ext.app _ _)) (by simp only [Spc.w] at hl; omega)) ?_
  rintro v S1 ⟨D1, he1, hv1, hf1⟩
  obtain ⟨b1, y1, rfl⟩ := hv1.form
  obtain ⟨X1, rfl⟩ := he1.split
  try simp only [List.append_assoc, List.cons_append, List.nil_append] at hv1 ⊢
  simp [Fresh] at hf1
  simp +contextual (dsimp := false)
  refine CallK.of ⟨_, Try.func47, rfl, rfl⟩ (toTargetS_ac (Rp.ext hc2 (Ext.app _ _)) (by simp only [Spc.w] at hl; omega)) ?_
  rintro v S2 ⟨D2, he2, hv2, hf2⟩
  obtain ⟨b2, y2, rfl⟩ := hv2.form
  obtain ⟨X2, rfl⟩ := he2.split
  try simp only [List.append_assoc, List.cons_append, List.nil_append] at hv2 ⊢
  simp [Fresh] at hf2
  simp +contextual (dsimp := false)
  refine ⟨D1 ++ D2, ⟨_, _, D1, D2, rfl, rfl, Rp.fr hv1 fun i hi => by exact fr3 (hf1.1 i hi) (Rp.lt hv1 i hi), Rp.fr hv2 fun i hi => by exact fr_drop 3 (by rfl) (by have := hf2.1 i hi; omega)⟩, fun i hi => ?_, List.nodup_append.2 ⟨hf1.2, hf2.2, fun a ha b hb hab => ?_⟩⟩
  · rcases List.mem_append.1 hi with h | h
    · have := hf1.1 i h; omega
    · have := hf2.1 i h; omega
  · subst hab
    have h1 := Rp.lt hv1 a ha
    have h2 := hf2.1 a hb
    simp only [List.length_append, List.length_cons] at h1
    omega
theorem eqSpace_ac {o1 o2 : Bool} {x y : Spc} {c1 c2 : List Value} {F1 F2 : List Nat} {H : Heap} (h1 : SpcR o1 H x c1 F1) (h2 : SpcR o2 H y c2 F2) : AC Try.prog ng 14 [.agg c1.toArray, .agg c2.toArray] H fun v S' => v = .bool (decide (x = y)) ∧ S' = H := by
  obtain ⟨s1, s2, G1, G2, rfl, rfl, hc1, hc2⟩ := h1
  obtain ⟨s'1, s'2, G'1, G'2, rfl, rfl, hc'1, hc'2⟩ := h2
  obtain ⟨a1, z1, rfl⟩ := hc1.form
  obtain ⟨a2, z2, rfl⟩ := hc2.form
  obtain ⟨a'1, z'1, rfl⟩ := hc'1.form
  obtain ⟨a'2, z'2, rfl⟩ := hc'2.form
  refine .flat (AC.go [] Try.func14 rfl Try.ntmps14 rfl ⟨mixed, by kernel_rfl⟩ ?_)
  simp +contextual (dsimp := false) [str_eq]
  refine CallK.fl ⟨_, Try.func51, rfl, rfl⟩ (eqSourceS_ac (Rp.ext hc1 (Ext.app _ _)) (Rp.ext hc'1 (Ext.app _ _))) ?_
  simp +contextual (dsimp := false)
  refine ifA_dec (fun h3 => ?_) (fun h3 => ?_)
  rotate_left
  · try simp
    rintro rfl
    exact h3 rfl
  refine CallK.fl ⟨_, Try.func52, rfl, rfl⟩ (eqTargetS_ac (Rp.ext hc2 (Ext.app _ _)) (Rp.ext hc'2 (Ext.app _ _))) ?_
  simp +contextual (dsimp := false)
  cases x
  cases y
  simp_all [ifA_ite]
theorem markSpace_ac {x : Spc} {c : List Value} {F : List Nat} {H : Heap} (h : SpcR true H x c F) (hnd : F.Nodup) (k : Nat) {e : Int} (hek : e = k) (hk : k + x.m ≤ 1000000000) :
    AC Try.prog ng 22 [.agg c.toArray, int e] H fun v S' => v = int ((k + x.m : Nat) : Int) ∧ SpcR true S' (x.mk' k) c F ∧ H.length ≤ S'.length ∧ ∀ j, j < H.length → j ∉ F → S'[j]? = H[j]? := by
  subst hek
  obtain ⟨s1, s2, G1, G2, rfl, rfl, hc1, hc2⟩ := h
  obtain ⟨a1, z1, rfl⟩ := hc1.form
  obtain ⟨a2, z2, rfl⟩ := hc2.form
  have hnd0 := List.nodup_append.1 hnd
  simp only [Spc.m] at hk
  refine AC.go [] Try.func22 rfl Try.ntmps22 rfl ⟨mixed, by kernel_rfl⟩ ?_
  simp +contextual (dsimp := false)
  refine CallK.of ⟨_, Try.func63, rfl, rfl⟩ (markSourceS_ac (Rp.ext hc1 (Ext.app _ _)) hnd0.1 k rfl (by omega)) ?_
  rintro v S1 ⟨rfl, q1, q2, q3⟩
  have hb : ∀ q : Blk → Prop, goB S1 H.length q = q _ := fun q => goB_of ((q3 _ (fun hm => by have := Rp.lt hc1 _ hm; omega)).trans (by rw [List.getElem?_append_right (Nat.le_refl _), Nat.sub_self]; rfl)) q
  have hne : ¬ S1.length = 0 := by rw [q2]; simp
  simp +contextual (dsimp := false) [hb]
  refine CallK.of ⟨_, Try.func64, rfl, rfl⟩ (markTargetS_ac (Rp.fr hc2 fun j hj => by rw [q3 j (fun hm => hnd0.2.2 j hm j hj rfl), get_ext (Rp.lt hc2 j hj)]) hnd0.2.1 (k + sumN Sou.m x.sources) (by omega) (by omega)) ?_
  rintro v S2 ⟨rfl, r1, r2, r3⟩
  simp +contextual (dsimp := false)
  refine ⟨by simp [Spc.m]; omega, ⟨_, _, G1, G2, rfl, rfl, Rp.fr q1 fun j hj => r3 j fun hm => hnd0.2.2 j hj j hm rfl, r1⟩, by rw [r2, q2]; simp, fun j hj hn1 hn2 => ?_⟩
  have e := (r3 j hn2).trans ((q3 j hn1).trans (get_ext hj))
  rw [e, List.getElem?_eq_getElem hj]
theorem heldSpace_ac {own : Bool} {x : Spc} {k : Nat} {c : List Value} {F : List Nat} {H : Heap} (h : SpcR own H (x.mk' k) c F) {e : Int} (hek : e = k) (hk : k + x.m ≤ 1000000000) :
    AC Try.prog ng 23 [.agg c.toArray, int e] H fun v S' => v = int ((k + x.m : Nat) : Int) ∧ S' = H := by
  subst hek
  obtain ⟨s1, s2, G1, G2, rfl, rfl, hc1, hc2⟩ := h
  simp only [Spc.mk'] at hc1 hc2
  have hc1' := hc1
  have hc2' := hc2
  obtain ⟨a1, z1, rfl⟩ := hc1.form
  obtain ⟨a2, z2, rfl⟩ := hc2.form
  simp only [Spc.m] at hk
  refine .flat (AC.go [] Try.func23 rfl Try.ntmps23 rfl ⟨mixed, by kernel_rfl⟩ ?_)
  simp +contextual (dsimp := false)
  refine CallK.fl ⟨_, Try.func65, rfl, rfl⟩ (heldSourceS_ac (k := k) (l := x.sources) (Rp.ext hc1 (Ext.app _ _)) rfl (by omega)) ?_
  simp +contextual (dsimp := false)
  refine ifA_dec (fun _ => by omega) (fun _ => ?_)
  refine CallK.fl ⟨_, Try.func66, rfl, rfl⟩ (heldTargetS_ac (k := k + sumN Sou.m x.sources) (l := x.targets) (Rp.ext hc2 (Ext.app _ _)) (by omega) (by omega)) ?_
  simp +contextual (dsimp := false)
  refine ifA_dec (fun _ => by omega) (fun _ => ?_)
  simp [Spc.m]
  omega
theorem szAccount_ac {own : Bool} {l : List Deed} {s : Value} {F : List Nat} {H : Heap} (hs : DeedsR own H l [s] F) (left : Int) (hl : 0 ≤ left ∧ left ≤ 1048576) : AC Try.prog ng 15 [.agg #[s], int left] H fun v S' => v = int (szR left (wL Deed.w l)) ∧ S' = H := by
  obtain ⟨a, z, rfl⟩ := hs.form
  refine .flat (AC.go [] Try.func15 rfl Try.ntmps15 rfl ⟨mixed, by kernel_rfl⟩ ?_)
  simp +contextual (dsimp := false)
  refine CallK.fl ⟨_, Try.func53, rfl, rfl⟩ (szDeedS_ac (Rp.ext hs (Ext.app _ _)) left hl) ?_
  simp +contextual (dsimp := false)
  refine ifA_dec (fun h => ?_) (fun h => ?_)
  · rw [szR_lt hl.1] at h; rw [szR_neg h]
  · trivial
theorem toAccount_ac {own : Bool} {l : List Deed} {s : Value} {F : List Nat} {H : Heap} (hs : DeedsR own H l [s] F) (hl : wL Deed.w l ≤ 1048576) : AC Try.prog ng 17 [.agg #[s]] H fun v S' => ∃ s' F', v = .agg #[s'] ∧ Ext H S' ∧ DeedsR true S' l [s'] F' ∧ Fresh H.length F' := by
  obtain ⟨a, z, rfl⟩ := hs.form
  refine AC.go [] Try.func17 rfl Try.ntmps17 rfl ⟨mixed, by kernel_rfl⟩ ?_
  simp +contextual (dsimp := false)
  refine CallK.of ⟨_, Try.func56, rfl, rfl⟩ (toDeedS_ac (Rp.ext hs (Ext.app _ _)) hl) ?_
  rintro v S' ⟨F', he, hv, hf⟩
  obtain ⟨a', z', rfl⟩ := hv.form
  obtain ⟨G, rfl⟩ := he.split
  try simp only [List.append_assoc, List.cons_append, List.nil_append] at hv ⊢
  simp [Fresh] at hf
  simp +contextual (dsimp := false)
  exact ⟨F', Rp.fr hv fun i hi => by exact fr_drop 3 (by rfl) (hf.1 i hi), fun i hi => by have := hf.1 i hi; omega, hf.2⟩
theorem eqAccount_ac {o1 o2 : Bool} {l1 l2 : List Deed} {s1 s2 : Value} {F1 F2 : List Nat} {H : Heap} (hs1 : DeedsR o1 H l1 [s1] F1) (hs2 : DeedsR o2 H l2 [s2] F2) : AC Try.prog ng 19 [.agg #[s1], .agg #[s2]] H fun v S' => v = .bool (decide (l1 = l2)) ∧ S' = H := by
  obtain ⟨a1, z1, rfl⟩ := hs1.form
  obtain ⟨a2, z2, rfl⟩ := hs2.form
  refine .flat (AC.go [] Try.func19 rfl Try.ntmps19 rfl ⟨mixed, by kernel_rfl⟩ ?_)
  simp +contextual (dsimp := false)
  refine CallK.fl ⟨_, Try.func59, rfl, rfl⟩ (eqDeedS_ac (Rp.ext hs1 (Ext.app _ _)) (Rp.ext hs2 (Ext.app _ _))) ?_
  simp +contextual (dsimp := false)
  simp [ifA_ite]
theorem markAccount_ac {l : List Deed} {s : Value} {F : List Nat} {H : Heap} (hs : DeedsR true H l [s] F) (hnd : F.Nodup) (k : Nat) {e : Int} (hek : e = k) (hk : k + sumN Deed.m l ≤ 1000000000) :
    AC Try.prog ng 26 [.agg #[s], int e] H fun v S' => v = int ((k + sumN Deed.m l : Nat) : Int) ∧ DeedsR true S' (mkL Deed.mk' Deed.m k l) [s] F ∧ H.length ≤ S'.length ∧ ∀ j, j < H.length → j ∉ F → S'[j]? = H[j]? := by
  subst hek
  obtain ⟨a, z, rfl⟩ := hs.form
  refine AC.go [] Try.func26 rfl Try.ntmps26 rfl ⟨mixed, by kernel_rfl⟩ ?_
  simp +contextual (dsimp := false)
  refine CallK.of ⟨_, Try.func75, rfl, rfl⟩ (markDeedS_ac (Rp.ext hs (Ext.app _ _)) hnd k rfl hk) ?_
  rintro v S' ⟨rfl, q1, q2, q3⟩
  simp +contextual (dsimp := false)
  refine ⟨q1, by simp at q2; omega, fun j hj hn => by rw [q3 j hn, get_ext hj, List.getElem?_eq_getElem hj]⟩
theorem heldAccount_ac {own : Bool} {l : List Deed} {k : Nat} {s : Value} {F : List Nat} {H : Heap} (hs : DeedsR own H (mkL Deed.mk' Deed.m k l) [s] F) {e : Int} (hek : e = k) (hk : k + sumN Deed.m l ≤ 1000000000) :
    AC Try.prog ng 27 [.agg #[s], int e] H fun v S' => v = int ((k + sumN Deed.m l : Nat) : Int) ∧ S' = H := by
  subst hek
  obtain ⟨a, z, rfl⟩ := hs.form
  refine .flat (AC.go [] Try.func27 rfl Try.ntmps27 rfl ⟨mixed, by kernel_rfl⟩ ?_)
  simp +contextual (dsimp := false)
  refine CallK.fl ⟨_, Try.func76, rfl, rfl⟩ (heldDeedS_ac (k := k) (l := l) (Rp.ext hs (Ext.app _ _)) rfl hk) ?_
  simp +contextual (dsimp := false)
  exact ifA_dec (fun h => by omega) (fun _ => trivial)
end Go.Proofs.Ytehhjbomdohgoaa

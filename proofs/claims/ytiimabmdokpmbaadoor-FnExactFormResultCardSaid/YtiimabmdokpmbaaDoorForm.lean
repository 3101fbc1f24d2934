/- FormResult, its law's walk. No condition. -/
import Derived.Test.YtiimabmdokpmbaaDoorRes
import Derived.Test.YtiimabmdokpmbaaDoorItoa
namespace Go.Proofs.YtiimabmdokpmbaaDoor
open Go Go.Am
set_option linter.unusedSimpArgs false
set_option linter.unusedVariables false
set_option maxRecDepth 20000
variable {ng : Nat}

theorem implFormResult_ac {own : Bool} {x : Res} {c : List Value} {F : List Nat} {H : Heap} (h : ResR own H x c F) (hx : okS x.text) : AC Tryd.prog ng 8 [.agg c.toArray] H fun v S' => v = str (formRes x) ∧ S' = H := by
  obtain ⟨s, rfl, h⟩ := h
  obtain ⟨a, z, rfl⟩ := h.form
  unfold okS at hx
  refine .flat (AC.go [(3, .take 0 <| .take 4 <| .take 1 <| .take 5 <| .one 2 [5] <| .take 3 <| .take 6 <| .take 7 <| .done)] Tryd.func8 rfl Tryd.ntmps8 rfl ⟨mixed, by kernel_rfl⟩ ?_)
  simp +contextual (dsimp := false)
  repeat' refine ifA_dec (fun _ => ?_) (fun _ => ?_)
  all_goals try (have h0 : formOk x = false := by (simp only [formOk, Bool.and_eq_false_iff, decide_eq_false_iff_not]; omega)
                 rw [formRes, h0]; rfl)
  have h1 : formOk x = true := by simp only [formOk, Bool.and_eq_true, decide_eq_true_eq]; omega
  refine CallK.fl ⟨_, Tryd.func18, rfl, rfl⟩ (itoa_small (m := x.code.toNat) (by omega) (by omega) _) ?_
  simp +contextual (dsimp := false)
  rw [bin_ladd (by simp; omega)]
  simp +contextual (dsimp := false)
  rw [formRes, if_pos h1]
theorem specFormResult_ac {own : Bool} {x : Res} {c : List Value} {F : List Nat} {H : Heap} (h : ResR own H x c F) (hx : okS x.text) : AC Tryd.prog ng 6 [.agg c.toArray] H fun v S' => v = str (formRes x) ∧ S' = H := by
  obtain ⟨s, rfl, h⟩ := h
  obtain ⟨a, z, rfl⟩ := h.form
  unfold okS at hx
  refine .flat (AC.go [(3, .take 0 <| .take 4 <| .take 1 <| .take 5 <| .one 2 [5] <| .take 3 <| .take 6 <| .take 7 <| .done)] Tryd.func6 rfl Tryd.ntmps6 rfl ⟨mixed, by kernel_rfl⟩ ?_)
  simp +contextual (dsimp := false)
  repeat' refine ifA_dec (fun _ => ?_) (fun _ => ?_)
  all_goals try (have h0 : formOk x = false := by (simp only [formOk, Bool.and_eq_false_iff, decide_eq_false_iff_not]; omega)
                 rw [formRes, h0]; rfl)
  have h1 : formOk x = true := by simp only [formOk, Bool.and_eq_true, decide_eq_true_eq]; omega
  refine CallK.fl ⟨_, Tryd.func16, rfl, rfl⟩ (l1Dec_small (m := x.code.toNat) (by omega) (by omega) _) ?_
  simp +contextual (dsimp := false)
  rw [bin_ladd (by simp; omega)]
  simp +contextual (dsimp := false)
  rw [formRes, if_pos h1]
theorem fnExactFormResult_ac {own : Bool} {x : Res} {c : List Value} {F : List Nat} {H : Heap} (h : ResR own H x c F) (hx : okS x.text) : AC Tryd.prog ng 3 [.agg c.toArray] H fun v S' => v = .bool true ∧ S' = H := by
  have h0 := h
  obtain ⟨s, rfl, h⟩ := h
  obtain ⟨a, z, rfl⟩ := h.form
  refine .flat (AC.go [(10, .take 0 <| .take 1 <| .one 2 [0] <| .one 3 [] <| .take 4 <| .done)] Tryd.func3 rfl Tryd.ntmps3 rfl ⟨mixed, by kernel_rfl⟩ ?_)
  simp +contextual (dsimp := false)
  refine CallK.fl ⟨_, Tryd.func5, rfl, rfl⟩ (szResult_ac (ResR.ext h0 (Ext.app _ _)) hx 1048576 (by omega)) ?_
  simp +contextual (dsimp := false)
  refine ifA_dec (fun h1 => ?_) (fun h1 => ?_)
  · simp
  · rw [szR_lt (by omega)] at h1
    have hb : x.chain.length ≤ 1048576 := by have := wS_le List.length x.chain 0; simp at this; omega
    refine CallK.of ⟨_, Tryd.func7, rfl, rfl⟩ (toResult_ac (ResR.ext h0 (Ext.app _ _)) hb) ?_
    rintro v S1 ⟨c1, F1, rfl, he1, hv1, hf1⟩
    obtain ⟨G1, rfl⟩ := he1.split
    try simp only [List.append_assoc, List.cons_append, List.nil_append] at hv1 ⊢
    obtain ⟨s1, rfl, _⟩ := id hv1
    simp +contextual (dsimp := false)
    refine CallK.fl ⟨_, Tryd.func6, rfl, rfl⟩ (specFormResult_ac hv1 hx) ?_
    simp +contextual (dsimp := false)
    refine CallK.of ⟨_, Tryd.func7, rfl, rfl⟩ (toResult_ac (ResR.ext h0 (Ext.app _ _)) hb) ?_
    rintro v S2 ⟨c2, F2, rfl, he2, hv2, hf2⟩
    obtain ⟨G2, rfl⟩ := he2.split
    try simp only [List.append_assoc, List.cons_append, List.nil_append] at hv2 ⊢
    obtain ⟨s2, rfl, w2⟩ := id hv2
    obtain ⟨a2, z2, rfl⟩ := w2.form
    simp +contextual (dsimp := false)
    refine CallK.fl ⟨_, Tryd.func8, rfl, rfl⟩ (implFormResult_ac (ResR.ext hv2 (by first | exact Ext.app _ _ | exact Ext.refl _ | (refine Ext.of ?_; simp))) hx) ?_
    simp +contextual (dsimp := false)
    refine CallK.of ⟨_, Tryd.func7, rfl, rfl⟩ (toResult_ac (ResR.ext h0 (Ext.app _ _)) hb) ?_
    rintro v S3 ⟨c3, F3, rfl, he3, hv3, hf3⟩
    obtain ⟨G3, rfl⟩ := he3.split
    try simp only [List.append_assoc, List.cons_append, List.nil_append] at hv3 ⊢
    obtain ⟨s3, rfl, w3⟩ := id hv3
    simp +contextual (dsimp := false)
    refine CallK.fl ⟨_, Tryd.func9, rfl, rfl⟩ (eqResult_ac (ResR.ext hv2 (by first | exact Ext.app _ _ | exact Ext.refl _ | (refine Ext.of ?_; simp))) hv3) ?_
    simp +contextual (dsimp := false)
end Go.Proofs.YtiimabmdokpmbaaDoor

import Derived.Test.YtephpieeibcihaaGreatDoorF2
import Derived.Test.YtephpieeibcihaaGreatDoorRes
import Derived.Test.YtephpieeibcihaaGreatDoorSpec
import Derived.Test.YtephpieeibcihaaGreatDoorSrc
import Derived.Test.YtephpieeibcihaaGreatDoorLAcc
/- Small numbers as text. No condition. -/
namespace Go.Proofs.YtephpieeibcihaaGreatDoor
open Go Go.Am
set_option linter.unusedSimpArgs false
set_option linter.unusedVariables false
set_option maxRecDepth 20000
variable {ng : Nat}

theorem small_part : ∀ m : Fin 10, ((([48, 49, 50, 51, 52, 53, 54, 55, 56, 57, 97, 98, 99, 100, 101, 102, 103, 104, 105, 106, 107, 108, 109, 110, 111, 112, 113, 114, 115, 116, 117, 118, 119, 120, 121, 122] : List UInt8).take (m.val + 1)).drop m.val) = [dig m.val] := by decide
theorem small_small {m : Nat} (hm : m < 10) (H : Heap) : AC Tryz.prog ng 241 [int m] H fun v S' => v = str [dig m] ∧ S' = H := by
  refine .flat (AC.go [] Tryz.func241 rfl Tryz.ntmps241 rfl ⟨mixed, by kernel_rfl⟩ ?_)
  simp (dsimp := false) [show (m : Int) < 10 by omega, wrap_succ (show m < 9223372036854775807 by omega)]
  have key : sliceZ Tryz.prog (some TypeDesc.string) (Value.string { data := #[48, 49, 50, 51, 52, 53, 54, 55, 56, 57, 97, 98, 99, 100, 101, 102, 103, 104, 105, 106, 107, 108, 109, 110, 111, 112, 113, 114, 115, 116, 117, 118, 119, 120, 121, 122] }) (some (int m)) (some (int ((m : Int) + 1))) none = some (str [dig m]) := by
    have h := sliceZ_mid (P := Tryz.prog) (l := [48, 49, 50, 51, 52, 53, 54, 55, 56, 57, 97, 98, 99, 100, 101, 102, 103, 104, 105, 106, 107, 108, 109, 110, 111, 112, 113, 114, 115, 116, 117, 118, 119, 120, 121, 122]) (k := .i64) (k' := .i64) (j := (m : Int)) (j' := (m : Int) + 1) (by omega) (by omega) (by simp; omega)
    rw [show ((m : Int) + 1).toNat = m + 1 by omega, show ((m : Int)).toNat = m by omega, small_part ⟨m, hm⟩] at h
    exact h
  rw [key]
  simp +contextual (dsimp := false)
theorem formatInt_small {m : Nat} (hm : m < 10) (H : Heap) : AC Tryz.prog ng 198 [.int .i64 m, int 10] H fun v S' => v = str [dig m] ∧ S' = H := by
  refine .flat (AC.go [] Tryz.func198 rfl Tryz.ntmps198 rfl ⟨mixed, by kernel_rfl⟩ ?_)
  simp (dsimp := false) [show (m : Int) < 100 by omega]
  refine CallK.fl ⟨_, Tryz.func241, rfl, rfl⟩ (small_small hm _) ?_
  simp +contextual (dsimp := false)
theorem itoaIn_small {m : Nat} (hm : m < 10) (H : Heap) : AC Tryz.prog ng 160 [int m] H fun v S' => v = str [dig m] ∧ S' = H := by
  refine .flat (AC.go [] Tryz.func160 rfl Tryz.ntmps160 rfl ⟨mixed, by kernel_rfl⟩ ?_)
  simp +contextual (dsimp := false)
  refine CallK.fl ⟨_, Tryz.func198, rfl, rfl⟩ (formatInt_small hm _) ?_
  simp +contextual (dsimp := false)
theorem itoa_small {m : Nat} (hm : m < 10) {e : Int} (he : e = m) (H : Heap) : AC Tryz.prog ng 99 [int e] H fun v S' => v = str [dig m] ∧ S' = H := by
  subst he
  refine .flat (AC.go [] Tryz.func99 rfl Tryz.ntmps99 rfl ⟨mixed, by kernel_rfl⟩ ?_)
  simp +contextual (dsimp := false)
  refine CallK.fl ⟨_, Tryz.func160, rfl, rfl⟩ (itoaIn_small hm _) ?_
  simp +contextual (dsimp := false)
end Go.Proofs.YtephpieeibcihaaGreatDoor

/- FormResult, its law's walk. No condition. -/
namespace Go.Proofs.YtephpieeibcihaaGreatDoor
open Go Go.Am
set_option linter.unusedSimpArgs false
set_option linter.unusedVariables false
set_option maxRecDepth 20000
variable {ng : Nat}

theorem implFormResult_ac {own : Bool} {x : Res} {c : List Value} {F : List Nat} {H : Heap} (h : ResR own H x c F) (hx : okS x.text) : AC Tryz.prog ng 50 [.agg c.toArray] H fun v S' => v = str (formRes x) ∧ S' = H := by
  obtain ⟨s, rfl, h⟩ := h
  obtain ⟨a, z, rfl⟩ := h.form
  unfold okS at hx
  refine .flat (AC.go [(3, .take 0 <| .take 4 <| .take 1 <| .take 5 <| .one 2 [5] <| .take 3 <| .take 6 <| .take 7 <| .done)] Tryz.func50 rfl Tryz.ntmps50 rfl ⟨mixed, by kernel_rfl⟩ ?_)
  simp +contextual (dsimp := false)
  repeat' refine ifA_dec (fun _ => ?_) (fun _ => ?_)
  all_goals try (have h0 : formOk x = false := by (simp only [formOk, Bool.and_eq_false_iff, decide_eq_false_iff_not]; omega)
                 rw [formRes, h0]; rfl)
  have h1 : formOk x = true := by simp only [formOk, Bool.and_eq_true, decide_eq_true_eq]; omega
  refine CallK.fl ⟨_, Tryz.func99, rfl, rfl⟩ (itoa_small (m := x.code.toNat) (by omega) (by omega) _) ?_
  simp +contextual (dsimp := false)
  rw [bin_ladd (by simp; omega)]
  simp +contextual (dsimp := false)
  rw [formRes, if_pos h1]
theorem specFormResult_ac {own : Bool} {x : Res} {c : List Value} {F : List Nat} {H : Heap} (h : ResR own H x c F) (hx : okS x.text) : AC Tryz.prog ng 48 [.agg c.toArray] H fun v S' => v = str (formRes x) ∧ S' = H := by
  obtain ⟨s, rfl, h⟩ := h
  obtain ⟨a, z, rfl⟩ := h.form
  unfold okS at hx
  refine .flat (AC.go [(3, .take 0 <| .take 4 <| .take 1 <| .take 5 <| .one 2 [5] <| .take 3 <| .take 6 <| .take 7 <| .done)] Tryz.func48 rfl Tryz.ntmps48 rfl ⟨mixed, by kernel_rfl⟩ ?_)
  simp +contextual (dsimp := false)
  repeat' refine ifA_dec (fun _ => ?_) (fun _ => ?_)
  all_goals try (have h0 : formOk x = false := by (simp only [formOk, Bool.and_eq_false_iff, decide_eq_false_iff_not]; omega)
                 rw [formRes, h0]; rfl)
  have h1 : formOk x = true := by simp only [formOk, Bool.and_eq_true, decide_eq_true_eq]; omega
  refine CallK.fl ⟨_, Tryz.func97, rfl, rfl⟩ (l1Dec_small (m := x.code.toNat) (by omega) (by omega) _) ?_
  simp +contextual (dsimp := false)
  rw [bin_ladd (by simp; omega)]
  simp +contextual (dsimp := false)
  rw [formRes, if_pos h1]
end Go.Proofs.YtephpieeibcihaaGreatDoor

/- What a deed's result is. No condition. -/
set_option linter.unusedSimpArgs false
set_option linter.unusedVariables false
namespace Go.Am
open Go
/-- The result that a deed tells. -/
def resD (d : Deed) : Res := if d.kind = 2 then ⟨4, d.name, []⟩ else ⟨d.code, d.text, []⟩
theorem resD_ok {d : Deed} (h : Deed.ok d) : okS (resD d).text := by
  unfold resD
  split
  · exact h.1
  · exact h.2.2.2
theorem resD_rep (d : Deed) (H : Heap) : ResR true H (resD d) [int (resD d).code, str (resD d).text, .slice none 0 0] [] := by
  unfold resD
  split
  · exact ⟨_, rfl, SlR.nil⟩
  · exact ⟨_, rfl, SlR.nil⟩
theorem formRes_okS (x : Res) : okS (formRes x) := by
  unfold formRes okS
  split
  · rename_i h
    simp only [formOk, Bool.and_eq_true, decide_eq_true_eq] at h
    simp only [List.length_cons]
    omega
  · simp
theorem formRes_len (x : Res) : (formRes x).length ≤ 2002 := by
  unfold formRes
  split
  · rename_i h
    simp only [formOk, Bool.and_eq_true, decide_eq_true_eq] at h
    simp only [List.length_cons]
    omega
  · simp
end Go.Am
namespace Go.Proofs.YtephpieeibcihaaGreatDoor
open Go Go.Am Go.Proofs
set_option maxRecDepth 20000
variable {ng : Nat}
theorem result_ac {own : Bool} {x : Deed} {c : List Value} {F : List Nat} {H : Heap} (hx : DeedR own H x c F) : AC Tryz.prog ng 51 [.agg c.toArray] H fun v S' => v = .agg #[int (resD x).code, str (resD x).text, .slice none 0 0] ∧ S' = H := by
  obtain ⟨hk, s1, s2, G1, G2, rfl, rfl, hc1, hc2⟩ := hx
  obtain ⟨a1, z1, rfl⟩ := hc1.form
  obtain ⟨a2, z2, rfl⟩ := hc2.form
  refine .flat (AC.go [] Tryz.func51 rfl Tryz.ntmps51 rfl ⟨mixed, by kernel_rfl⟩ ?_)
  simp +contextual (dsimp := false)
  unfold resD
  refine ifA_dec (fun h => ?_) (fun h => ?_) <;> simp [h]
end Go.Proofs.YtephpieeibcihaaGreatDoor

/- Texts, both. No condition. -/
set_option linter.unusedSimpArgs false
set_option linter.unusedVariables false
namespace Go.Am
open Go
def text1 (d : Deed) : List UInt8 := formRes (resD d)
def texts1 (ds : List Deed) : List (List UInt8) := if accOk ds then ds.map text1 else []
def textsN (l : List (List Deed)) : List (List UInt8) := l.flatMap texts1
def textsL (l : List (List Deed)) : List (List UInt8) := if 50 < l.length then [] else setOf (textsN l)
theorem textsN_s {l : List (List Deed)} {i : Nat} (h : i < l.length) : textsN (l.take (i + 1)) = textsN (l.take i) ++ texts1 l[i] := by
  unfold textsN
  rw [List.take_succ_eq_append_getElem h, List.flatMap_append]
  simp
theorem texts_s {ds : List Deed} {i : Nat} (h : i < ds.length) : (ds.take (i + 1)).map text1 = (ds.take i).map text1 ++ [text1 ds[i]] := by
  rw [List.take_succ_eq_append_getElem h, List.map_append]
  rfl
theorem texts1_len (ds : List Deed) : (texts1 ds).length ≤ 400 := by
  unfold texts1
  split
  · rename_i h
    have := accOk_len h
    simp; omega
  · simp
theorem textsN_len : ∀ l : List (List Deed), (textsN l).length ≤ 400 * l.length
  | [] => by simp [textsN]
  | a :: l => by
    have := textsN_len l
    have := texts1_len a
    unfold textsN at *
    simp only [List.flatMap_cons, List.length_append, List.length_cons]
    omega
theorem textsL_len (l : List (List Deed)) : (textsL l).length ≤ 20000 := by
  unfold textsL
  split
  · simp
  · have h1 := setOf_len (textsN l)
    have h2 := textsN_len l
    omega
end Go.Am
namespace Go.Proofs.YtephpieeibcihaaGreatDoor
open Go Go.Am Go.Proofs
set_option maxRecDepth 20000
variable {ng : Nat}
theorem implTexts_ac {own : Bool} {l : List (List Deed)} {s : Value} {F : List Nat} {H : Heap} (hs : AccsR own H l [s] F) : AC Tryz.prog ng 13 [s] H fun v S' => ∃ F', Ext H S' ∧ StrsR true S' (textsL l) [v] F' ∧ Fresh H.length F' := by
  obtain ⟨a, z, rfl⟩ := hs.form
  refine AC.go [] Tryz.func13 rfl Tryz.ntmps13 rfl ⟨mixed, by kernel_rfl⟩ ?_
  unfold textsL
  by_cases k1 : 50 < l.length
  · have k1' : (50 : Int) < l.length := by omega
    rw [if_pos k1]
    simp +contextual (dsimp := false) [k1']
    exact ⟨[], SlR.nil, Fresh.nil _⟩
  have k1' : ¬ (50 : Int) < l.length := by omega
  rw [if_neg k1]
  simp +contextual (dsimp := false) [k1']
  have hln : ∀ y : List (List UInt8), y.Nodup → (∀ x, x ∈ y ↔ x ∈ textsN l) → y.length ≤ 1048576 := fun y hn hy => by
    have h1 := nodup_sub_len y (textsN l) hn fun x hx => (hy x).1 hx
    have h2 := textsN_len l
    omega
  obtain ⟨H0, hH0⟩ : ∃ H0, H0 = H ++ [(⟨.map #[] 0, true, true⟩ : Blk)] := ⟨_, rfl⟩
  have hx0 : Ext H H0 := by rw [hH0]; exact Ext.app _ _
  have hl0 : H0.length = H.length + 1 := by rw [hH0]; simp
  have hm0 : MapR kS H0 H.length (vS []) := MapR.new (by rw [hH0]; simp)
  rw [← hH0]
  refine LoopA.up (σ := Nat × Heap × List (List UInt8)) [3, 12, 13, 14] (fun i => [(14, int i.1)]) (fun i => i.2.1)
    (fun x => x.1 ≤ l.length ∧ Ext H x.2.1 ∧ H.length + 1 ≤ x.2.1.length ∧ MapR kS x.2.1 H.length (vS x.2.2) ∧ x.2.2.Nodup ∧ (∀ y, y ∈ x.2.2 ↔ y ∈ textsN (l.take x.1)) ∧ ∀ y ∈ x.2.2, okS y) (fun i => l.length - i.1) (0, H0, []) rfl ⟨by simp, hx0, by dsimp only; omega, hm0, by simp, by simp [textsN], by simp⟩ ?_
  rintro ⟨i, hp, u⟩ ⟨hi, hx, hle, hm, hnd, hmem, hks⟩
  dsimp only at hi hx hle hm hnd hmem hks
  simp +contextual (dsimp := false)
  refine ifA_dec (fun h3 => ?_) (fun h3 => ?_)
  · obtain ⟨id, o, cc, e, f, ow, cs, Fi, E⟩ := SlR.get (Rp.ext hs hx) i h3
    have hrep := E.rep
    obtain ⟨s1, rfl⟩ := List.length_eq_one_iff.1 (Rp.len hrep)
    obtain ⟨a1, z1, rfl⟩ := hrep.form
    simp +contextual (dsimp := false) [E.idx, E.goB, E.lt, E.le, E.ext]
    refine CallK.fl ⟨_, Tryz.func49, rfl, rfl⟩ (accValid_ac (Rp.ext hrep (Ext.app _ _))) ?_
    have hns := textsN_s h3
    unfold texts1 at hns
    cases hok : accOk l[i] with
    | false =>
      rw [hok] at hns
      simp only [Bool.false_eq_true, if_false, List.append_nil] at hns
      simp +contextual (dsimp := false) [wrap_succ (show i < 9223372036854775807 by omega)]
      refine LoopN.of (i + 1, _, u) rfl ⟨h3, hx.trans (Ext.app _ _), by simp; omega, hm.fr (get_ext hm.lt), hnd, fun y => ?_, hks⟩ (by dsimp only; omega)
      dsimp only
      rw [hns, hmem]
    | true =>
      rw [hok] at hns
      simp only [if_true] at hns
      have hlen := accOk_len hok
      simp +contextual (dsimp := false) [wrap_succ (show i < 9223372036854775807 by omega)]
      obtain ⟨h1, hh1⟩ : ∃ h1, h1 = hp ++ [(⟨.cells #[.slice a1 l[i].length z1] 58 (0, 0), true, true⟩ : Blk)] := ⟨_, rfl⟩
      rw [← hh1]
      have hx1 : Ext hp h1 := by rw [hh1]; exact Ext.app _ _
      have hm1 : MapR kS h1 H.length (vS u) := hm.fr (hx1 _ hm.lt)
      have hl1 : h1.length = hp.length + 1 := by rw [hh1]; simp
      have hG : ∀ j ∈ Fi, j < H.length := fun j hj => Rp.lt hs j (E.sub j hj)
      have hds : ∀ h : Heap, Ext H h → DeedsR own h l[i] [.slice a1 l[i].length z1] Fi := fun h he => Rp.fr hrep fun j hj => (he j (hG j hj)).trans (hx j (hG j hj)).symm
      clear E
      refine LoopA.up (σ := Nat × Heap × List (List UInt8)) [3, 12, 13, 14, 21, 22, 23] (fun i => [(23, int i.1)]) (fun i => i.2.1)
        (fun x => x.1 ≤ l[i].length ∧ Ext H x.2.1 ∧ H.length + 1 ≤ x.2.1.length ∧ MapR kS x.2.1 H.length (vS x.2.2) ∧ x.2.2.Nodup ∧ (∀ y, y ∈ x.2.2 ↔ y ∈ textsN (l.take i) ++ (l[i].take x.1).map text1) ∧ ∀ y ∈ x.2.2, okS y) (fun x => l[i].length - x.1) (0, h1, u) rfl ⟨by simp, hx.trans hx1, by dsimp only; omega, hm1, hnd, fun y => by show y ∈ u ↔ _; rw [hmem]; simp, hks⟩ ?_
      rintro ⟨k, h2, l2⟩ ⟨hk2, hx2, hle2, hm2, hnd2, hmem2, hks2⟩
      dsimp only at hk2 hx2 hle2 hm2 hnd2 hmem2 hks2
      simp +contextual (dsimp := false)
      refine ifA_dec (fun h4 => ?_) (fun h4 => ?_)
      · obtain ⟨id', o', c', e', f', ow', cs', Fi', E'⟩ := SlR.get (hds h2 hx2) k h4
        have hr' := E'.rep
        have hrk := hr'.1
        obtain ⟨-, s1, s2, G1, G2, rfl, hFi, hc1, hc2⟩ := E'.rep
        obtain ⟨a3, z3, rfl⟩ := hc1.form
        obtain ⟨a4, z4, rfl⟩ := hc2.form
        have hm4 : ∀ T : Heap, MapR kS (h2 ++ T) H.length (vS l2) := fun T => hm2.fr (get_ext hm2.lt)
        simp +contextual (dsimp := false) [E'.idx, E'.goB, E'.le, E'.lt, E'.ext, wrap_succ (show k < 9223372036854775807 by omega)]
        refine CallK.fl ⟨_, Tryz.func51, rfl, rfl⟩ (result_ac (Rp.ext hr' (Ext.app _ _))) ?_
        simp +contextual (dsimp := false)
        refine CallK.fl ⟨_, Tryz.func50, rfl, rfl⟩ (implFormResult_ac (resD_rep l[i][k] _) (resD_ok hrk)) ?_
        simp +contextual (dsimp := false)
        refine UpdK.map (a := text1 l[i][k]) keySB (hm4 _) rfl ?_
        intro es2 cl2 hmp2
        rw [putP_vS] at hmp2
        simp +contextual (dsimp := false) [wrap_succ (show k < 9223372036854775807 by omega)]
        refine LoopN.of (k + 1, _, if text1 l[i][k] ∈ l2 then l2 else l2 ++ [text1 l[i][k]]) rfl ⟨h4, fun j hj => (List.getElem?_set_ne (by omega)).trans ((get_ext (by omega)).trans (hx2 j hj)), by simp; omega, hmp2, nodup_put hnd2, fun y => ?_, fun y hy => ?_⟩ (by dsimp only; omega)
        · dsimp only
          rw [mem_put, hmem2, texts_s h4]
          simp [or_assoc]
        · rcases mem_put.1 hy with hy | rfl
          · exact hks2 y hy
          · exact formRes_okS _
      · rw [List.take_of_length_le (show l[i].length ≤ k by omega)] at hmem2
        simp +contextual (dsimp := false) [wrap_succ (show i < 9223372036854775807 by omega)]
        refine LoopN.of (i + 1, h2, l2) rfl ⟨h3, hx2, hle2, hm2, hnd2, fun y => ?_, hks2⟩ (by dsimp only; omega)
        dsimp only
        rw [hmem2, hns]
  · rw [List.take_of_length_le (show l.length ≤ i by omega)] at hmem
    refine CallK.of ⟨_, Tryz.func52, rfl, rfl⟩ (sorted_ac hm hks (hln u hnd hmem)) ?_
    rintro v S' ⟨o, F, hp1, he1, hv1, hf1⟩
    have e9 := sort_setOf (xs := textsN l) hnd hmem hp1
    rw [e9] at hv1
    obtain ⟨a3, z3, rfl⟩ := hv1.form
    simp +contextual (dsimp := false)
    exact ⟨hx.trans he1, F, hv1, hf1.weak (by omega)⟩
theorem specTexts_ac {own : Bool} {l : List (List Deed)} {s : Value} {F : List Nat} {H : Heap} (hs : AccsR own H l [s] F) : AC Tryz.prog ng 11 [s] H fun v S' => ∃ F', Ext H S' ∧ StrsR true S' (textsL l) [v] F' ∧ Fresh H.length F' := by
  obtain ⟨a, z, rfl⟩ := hs.form
  refine AC.go [] Tryz.func11 rfl Tryz.ntmps11 rfl ⟨mixed, by kernel_rfl⟩ ?_
  unfold textsL
  by_cases k1 : 50 < l.length
  · have k1' : (50 : Int) < l.length := by omega
    rw [if_pos k1]
    simp +contextual (dsimp := false) [k1']
    exact ⟨_, SlR.mt (R := strR) (e := 9) (f := (0, 0)) (j := H.length) (by simp), Fresh.one (by omega)⟩
  have k1' : ¬ (50 : Int) < l.length := by omega
  rw [if_neg k1]
  simp +contextual (dsimp := false) [k1']
  obtain ⟨H0, hH0⟩ : ∃ H0, H0 = H ++ [(⟨.cells #[] 9 (0, 0), true, true⟩ : Blk)] := ⟨_, rfl⟩
  have hx0 : Ext H H0 := by rw [hH0]; exact Ext.app _ _
  have hl0 : H0.length = H.length + 1 := by rw [hH0]; simp
  have hr0 : StrsR true H0 (setOf (textsN (l.take 0))) [.slice (some ⟨H.length, 0, none⟩) 0 1] [H.length] := SlR.mt (R := strR) (e := 9) (f := (0, 0)) (by rw [hH0]; simp)
  rw [← hH0]
  have hlen : ∀ i, i ≤ l.length → ∀ m : List (List UInt8), m.length ≤ 400 → (setOf (textsN (l.take i) ++ m)).length ≤ 1000000000 := fun i hi m hm => by
    have h1 := setOf_len (textsN (l.take i) ++ m)
    have h2 := textsN_len (l.take i)
    simp only [List.length_append, List.length_take] at h1 h2
    omega
  refine LoopA.up (σ := Nat × Heap × Value × List Nat) [0, 3, 4] (fun i => [(3, i.2.2.1), (4, int i.1)]) (fun i => i.2.1)
    (fun x => x.1 ≤ l.length ∧ Ext H x.2.1 ∧ StrsR true x.2.1 (setOf (textsN (l.take x.1))) [x.2.2.1] x.2.2.2 ∧ Fresh H.length x.2.2.2) (fun i => l.length - i.1) (0, H0, _, _) rfl ⟨by simp, hx0, hr0, Fresh.one (Nat.le_refl _)⟩ ?_
  rintro ⟨i, hp, sv, FB⟩ ⟨hi, hx, hr, hf⟩
  dsimp only at hi hx hr hf
  have hle := hx.le
  simp +contextual (dsimp := false)
  refine ifA_dec (fun h3 => ?_) (fun h3 => ?_)
  · have hdi : ∀ h : Heap, Ext H h → ∃ id o c e f ow cs Fi, Elt (DeedsR own) 1 own h l (.slice a l.length z) F i l[i] id o c e f ow cs Fi := fun h he => SlR.get (Rp.ext hs he) i h3
    obtain ⟨id, o, cc, e, f, ow, cs, Fi, E⟩ := hdi hp hx
    have hrep := E.rep
    obtain ⟨s1, rfl⟩ := List.length_eq_one_iff.1 (Rp.len hrep)
    obtain ⟨a1, z1, rfl⟩ := hrep.form
    simp +contextual (dsimp := false) [E.idx, E.goB, E.lt, E.le, E.ext]
    refine CallK.fl ⟨_, Tryz.func46, rfl, rfl⟩ (l3Ok_ac hrep) ?_
    have hns := textsN_s h3
    unfold texts1 at hns
    cases hok : accOk l[i] with
    | false =>
      rw [hok] at hns
      simp only [Bool.false_eq_true, if_false, List.append_nil] at hns
      simp +contextual (dsimp := false) [wrap_succ (show i < 9223372036854775807 by omega)]
      refine LoopN.of (i + 1, hp, _, FB) rfl ⟨h3, hx, ?_, hf⟩ (by dsimp only; omega)
      dsimp only
      rw [hns]
      exact hr
    | true =>
      rw [hok] at hns
      simp only [if_true] at hns
      have hlen1 := accOk_len hok
      simp +contextual (dsimp := false) [wrap_succ (show i < 9223372036854775807 by omega)]
      clear E
      refine LoopA.up (σ := Nat × Heap × Value × List Nat) [0, 3, 4, 5] (fun i => [(3, i.2.2.1), (5, int i.1)]) (fun i => i.2.1)
        (fun x => x.1 ≤ l[i].length ∧ Ext H x.2.1 ∧ StrsR true x.2.1 (setOf (textsN (l.take i) ++ (l[i].take x.1).map text1)) [x.2.2.1] x.2.2.2 ∧ Fresh H.length x.2.2.2) (fun x => l[i].length - x.1) (0, hp, _, _) rfl ⟨by simp, hx, by simpa using hr, hf⟩ ?_
      rintro ⟨k, h2, sv2, F2⟩ ⟨hk2, hx2, hr2, hf2⟩
      dsimp only at hk2 hx2 hr2 hf2
      have hle2 := hx2.le
      obtain ⟨id, o, cc, e, f, ow, cs, Fi, E⟩ := hdi h2 hx2
      have hrep2 := E.rep
      obtain ⟨s1', rfl⟩ := List.length_eq_one_iff.1 (Rp.len hrep2)
      obtain ⟨a1', z1', rfl⟩ := hrep2.form
      simp +contextual (dsimp := false) [E.idx, E.goB, E.le, E.lt, E.cell0, E.cell, E.ext]
      refine ifA_dec (fun h4 => ?_) (fun h4 => ?_)
      · obtain ⟨id', o', c', e', f', ow', cs', Fi', E'⟩ := SlR.get hrep2 k h4
        have hr' := E'.rep
        have hrk := hr'.1
        obtain ⟨-, s1, s2, G1, G2, rfl, hFi, hc1, hc2⟩ := E'.rep
        obtain ⟨a3, z3, rfl⟩ := hc1.form
        obtain ⟨a4, z4, rfl⟩ := hc2.form
        have hsl2 := hlen i (by omega) ((l[i].take k).map text1) (by simp; omega)
        simp +contextual (dsimp := false) [E.idx, E.goB, E.le, E.lt, E.cell0, E.cell, E.ext, E'.idx, E'.goB, E'.le, E'.lt, E'.cell0, E'.cell, E'.ext, wrap_succ (show k < 9223372036854775807 by omega)]
        refine ifA_dec (fun h5 => ?_) (fun h5 => ?_)
        · have e5 : resD l[i][k] = ⟨4, l[i][k].name, []⟩ := if_pos h5
          have hrr : ∀ T, ResR true T (resD l[i][k]) [int 4, str l[i][k].name, .slice none 0 0] [] := fun T => by have := resD_rep l[i][k] T; rw [e5] at this ⊢; exact this
          refine CallK.fl ⟨_, Tryz.func48, rfl, rfl⟩ (specFormResult_ac (x := resD l[i][k]) (hrr _) (resD_ok hrk)) ?_
          simp +contextual (dsimp := false)
          refine CallK.of ⟨_, Tryz.func47, rfl, rfl⟩ (l5Put_ac (base := H.length) (Rp.ext hr2 (Ext.app _ _)) hf2 (by simp; omega) (formRes_okS (resD l[i][k])) hsl2) ?_
          rintro v S3 ⟨F3, he3, hv3, hf3⟩
          simp +contextual (dsimp := false) [wrap_succ (show k < 9223372036854775807 by omega)]
          refine LoopN.of (k + 1, S3, _, F3) rfl ⟨h4, hx2.trans ((Ext.app _ _).trans he3), ?_, hf3⟩ (by dsimp only; omega)
          dsimp only
          rw [texts_s h4, ← List.append_assoc, setOf_snoc]
          exact hv3
        · have e5 : resD l[i][k] = ⟨l[i][k].code, l[i][k].text, []⟩ := if_neg h5
          have hrr : ∀ T, ResR true T (resD l[i][k]) [int l[i][k].code, str l[i][k].text, .slice none 0 0] [] := fun T => by have := resD_rep l[i][k] T; rw [e5] at this ⊢; exact this
          refine CallK.fl ⟨_, Tryz.func48, rfl, rfl⟩ (specFormResult_ac (x := resD l[i][k]) (hrr _) (resD_ok hrk)) ?_
          simp +contextual (dsimp := false)
          refine CallK.of ⟨_, Tryz.func47, rfl, rfl⟩ (l5Put_ac (base := H.length) (Rp.ext hr2 (Ext.app _ _)) hf2 (by simp; omega) (formRes_okS (resD l[i][k])) hsl2) ?_
          rintro v S3 ⟨F3, he3, hv3, hf3⟩
          simp +contextual (dsimp := false) [wrap_succ (show k < 9223372036854775807 by omega)]
          refine LoopN.of (k + 1, S3, _, F3) rfl ⟨h4, hx2.trans ((Ext.app _ _).trans he3), ?_, hf3⟩ (by dsimp only; omega)
          dsimp only
          rw [texts_s h4, ← List.append_assoc, setOf_snoc]
          exact hv3
      · rw [List.take_of_length_le (show l[i].length ≤ k by omega), ← hns] at hr2
        simp +contextual (dsimp := false) [wrap_succ (show i < 9223372036854775807 by omega)]
        exact LoopN.of (i + 1, h2, sv2, F2) rfl ⟨h3, hx2, hr2, hf2⟩ (by dsimp only; omega)
  · rw [List.take_of_length_le (show l.length ≤ i by omega)] at hr
    exact ⟨hx, FB, hr, hf⟩
end Go.Proofs.YtephpieeibcihaaGreatDoor

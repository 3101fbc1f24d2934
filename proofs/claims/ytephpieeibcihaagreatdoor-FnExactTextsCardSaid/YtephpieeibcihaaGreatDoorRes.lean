/- Results: the laws' helpers, ReadResult. No condition. -/
import Derived.Test.YtephpieeibcihaaGreatDoorStr
namespace Go.Proofs.YtephpieeibcihaaGreatDoor
open Go Go.Am
set_option linter.unusedSimpArgs false
set_option linter.unusedVariables false
set_option maxRecDepth 20000
variable {ng : Nat}

theorem eqResult_ac {o1 o2 : Bool} {x y : Res} {c1 c2 : List Value} {F1 F2 : List Nat} {H : Heap} (h1 : ResR o1 H x c1 F1) (h2 : ResR o2 H y c2 F2) : AC Tryz.prog ng 23 [.agg c1.toArray, .agg c2.toArray] H fun v S' => v = .bool (decide (x = y)) ∧ S' = H := by
  obtain ⟨s1, rfl, h1⟩ := h1
  obtain ⟨s2, rfl, h2⟩ := h2
  obtain ⟨a1, z1, rfl⟩ := h1.form
  obtain ⟨a2, z2, rfl⟩ := h2.form
  refine .flat (AC.go [] Tryz.func23 rfl Tryz.ntmps23 rfl ⟨mixed, by kernel_rfl⟩ ?_)
  simp +contextual (dsimp := false) [str_eq]
  refine ifA_dec (fun h3 => ?_) (fun h3 => ?_)
  · refine ifA_dec (fun h4 => ?_) (fun h4 => ?_)
    · refine CallK.fl ⟨_, Tryz.func14, rfl, rfl⟩ (eqStringS_ac (Rp.ext h1 (Ext.app _ _)) (Rp.ext h2 (Ext.app _ _))) ?_
      simp +contextual (dsimp := false)
      cases x
      cases y
      simp_all [ifA_ite]
    · rintro rfl
      exact h4 rfl
  · rintro rfl
    exact h3 rfl
theorem markResult_ac {x : Res} {c : List Value} {F : List Nat} {H : Heap} (h : ResR true H x c F) (hnd : F.Nodup) (k : Nat) {e : Int} (hek : e = k) (hk : k + x.chain.length ≤ 1000000000) :
    AC Tryz.prog ng 26 [.agg c.toArray, int e] H fun v S' => v = int ((k + x.chain.length : Nat) : Int) ∧ ResR true S' { x with chain := mList k x.chain.length } c F ∧ H.length ≤ S'.length ∧ ∀ j, j < H.length → j ∉ F → S'[j]? = H[j]? := by
  subst hek
  obtain ⟨s, rfl, h⟩ := h
  obtain ⟨a, z, rfl⟩ := h.form
  refine AC.go [] Tryz.func26 rfl Tryz.ntmps26 rfl ⟨mixed, by kernel_rfl⟩ ?_
  simp +contextual (dsimp := false)
  refine CallK.of ⟨_, Tryz.func17, rfl, rfl⟩ (markStringS_ac (Rp.ext h (Ext.app _ _)) hnd k rfl hk) ?_
  rintro v S' ⟨rfl, q1, q2, q3⟩
  simp +contextual (dsimp := false)
  refine ⟨⟨_, rfl, q1⟩, by simp at q2; omega, fun j hj hn => by rw [q3 j hn, get_ext hj, List.getElem?_eq_getElem hj]⟩
theorem heldResult_ac {own : Bool} {n k : Nat} {x : Res} {c : List Value} {F : List Nat} {H : Heap} (h : ResR own H { x with chain := mList k n } c F) {e : Int} (hek : e = k) (hk : k + n ≤ 1000000000) :
    AC Tryz.prog ng 27 [.agg c.toArray, int e] H fun v S' => v = int ((k + n : Nat) : Int) ∧ S' = H := by
  subst hek
  obtain ⟨s, rfl, h⟩ := h
  obtain ⟨a, z, rfl⟩ := h.form
  refine .flat (AC.go [] Tryz.func27 rfl Tryz.ntmps27 rfl ⟨mixed, by kernel_rfl⟩ ?_)
  simp +contextual (dsimp := false)
  refine CallK.fl ⟨_, Tryz.func18, rfl, rfl⟩ (heldStringS_ac (Rp.ext h (Ext.app _ _)) rfl hk) ?_
  simp +contextual (dsimp := false)
  exact ifA_dec (fun h => by omega) (fun _ => trivial)
theorem l1Dec_small {m : Nat} (hm : m < 10) {e : Int} (he : e = m) (H : Heap) : AC Tryz.prog ng 97 [int e] H fun v S' => v = str [dig m] ∧ S' = H := by
  subst he
  refine .flat (AC.go [(3, .take 0 <| .take 1 <| .take 3 <| .take 4 <| .take 5 <| .take 6 <| .two 2 [] (.one 7 [] <| .take 8 <| .take 9 <| .take 10 <| .done) 7 [] (.take 8 <| .one 2 [8] <| .take 9 <| .take 10 <| .done))] Tryz.func97 rfl Tryz.ntmps97 rfl ⟨mixed, by kernel_rfl⟩ ?_)
  have e3 : IntKind.u8.wrap (IntKind.i64.wrap (48 + (m : Int))) = ((48 + m % 10 : Nat) : Int) := by
    rw [wrap_of _ (by omega) (by omega), wrap_u8 (by omega) (by omega)]; omega
  simp (dsimp := false) [show (m : Int) < 10 by omega]
  rw [e3]
  refine ConvK.of (v := str [dig m]) (conv_byteN (m := 48 + m % 10) und152 und5 und9 (by omega) (by rw [List.getElem?_append_right (Nat.le_refl _), Nat.sub_self]; rfl)) ?_
  simp +contextual (dsimp := false)
end Go.Proofs.YtephpieeibcihaaGreatDoor

/- Results: the laws' helpers, ReadResult. No condition. -/
import Derived.Test.YtiimabmdokpmbaaDoorStr
namespace Go.Proofs.YtiimabmdokpmbaaDoor
open Go Go.Am
set_option linter.unusedSimpArgs false
set_option linter.unusedVariables false
set_option maxRecDepth 20000
variable {ng : Nat}

theorem eqResult_ac {o1 o2 : Bool} {x y : Res} {c1 c2 : List Value} {F1 F2 : List Nat} {H : Heap} (h1 : ResR o1 H x c1 F1) (h2 : ResR o2 H y c2 F2) : AC Tryd.prog ng 9 [.agg c1.toArray, .agg c2.toArray] H fun v S' => v = .bool (decide (x = y)) ∧ S' = H := by
  obtain ⟨s1, rfl, h1⟩ := h1
  obtain ⟨s2, rfl, h2⟩ := h2
  obtain ⟨a1, z1, rfl⟩ := h1.form
  obtain ⟨a2, z2, rfl⟩ := h2.form
  refine .flat (AC.go [] Tryd.func9 rfl Tryd.ntmps9 rfl ⟨mixed, by kernel_rfl⟩ ?_)
  simp +contextual (dsimp := false) [str_eq]
  refine ifA_dec (fun h3 => ?_) (fun h3 => ?_)
  · refine ifA_dec (fun h4 => ?_) (fun h4 => ?_)
    · refine CallK.fl ⟨_, Tryd.func19, rfl, rfl⟩ (eqStringS_ac (Rp.ext h1 (Ext.app _ _)) (Rp.ext h2 (Ext.app _ _))) ?_
      simp +contextual (dsimp := false)
      cases x
      cases y
      simp_all [ifA_ite]
    · rintro rfl
      exact h4 rfl
  · rintro rfl
    exact h3 rfl
theorem implReadResult_ac (l : List UInt8) (hl : l.length ≤ 1048576) (H : Heap) : AC Tryd.prog ng 11 [str l] H fun v S' => v = .tuple #[.agg (readRes l).c.toArray, .bool (readOk l)] ∧ S' = H := by
  rcases l with _ | ⟨a, _ | ⟨b, t⟩⟩
  · refine .flat (AC.go [] Tryd.func11 rfl Tryd.ntmps11 rfl ⟨mixed, by kernel_rfl⟩ ?_)
    simp (dsimp := false)
    exact ⟨rfl, rfl⟩
  · refine .flat (AC.go [] Tryd.func11 rfl Tryd.ntmps11 rfl ⟨mixed, by kernel_rfl⟩ ?_)
    simp (dsimp := false)
    exact ⟨rfl, rfl⟩
  · have hl2 : t.length ≤ 1048574 := by simpa using hl
    refine .flat (AC.go [] Tryd.func11 rfl Tryd.ntmps11 rfl ⟨mixed, by kernel_rfl⟩ ?_)
    simp +contextual (dsimp := false) [show ¬ ((t.length : Int) + 1 + 1 < 2) by omega, show (2 : Int) ≤ (t.length : Int) + 1 + 1 by omega, show IntKind.i64.wrap ((t.length : Int) + 1 + 1 - 2) = t.length by rw [wrap_of _ (by omega) (by omega)]; omega]
    repeat' refine ifA_dec (fun _ => ?_) (fun _ => ?_)
    all_goals first
      | (have h : readOk (a :: b :: t) = false := by (simp [readOk]; omega)
         simp [readRes, h, Res.c]; done)
      | (have h : readOk (a :: b :: t) = true := by (simp [readOk]; omega)
         simp [readRes, h, Res.c]
         rw [wrap_u8 (by omega) (by omega), wrap_of _ (by omega) (by omega)]; done)
theorem specReadResult_ac (l : List UInt8) (hl : l.length ≤ 1048576) (H : Heap) : AC Tryd.prog ng 14 [str l] H fun v S' => v = .tuple #[.agg (readRes l).c.toArray, .bool (readOk l)] ∧ S' = H := by
  rcases l with _ | ⟨a, _ | ⟨b, t⟩⟩
  · refine .flat (AC.go [] Tryd.func14 rfl Tryd.ntmps14 rfl ⟨mixed, by kernel_rfl⟩ ?_)
    simp (dsimp := false)
    exact ⟨rfl, rfl⟩
  · refine .flat (AC.go [] Tryd.func14 rfl Tryd.ntmps14 rfl ⟨mixed, by kernel_rfl⟩ ?_)
    simp (dsimp := false)
    exact ⟨rfl, rfl⟩
  · have hl2 : t.length ≤ 1048574 := by simpa using hl
    refine .flat (AC.go [] Tryd.func14 rfl Tryd.ntmps14 rfl ⟨mixed, by kernel_rfl⟩ ?_)
    simp +contextual (dsimp := false) [show ¬ ((t.length : Int) + 1 + 1 < 2) by omega, show (2 : Int) ≤ (t.length : Int) + 1 + 1 by omega, show IntKind.i64.wrap ((t.length : Int) + 1 + 1 - 2) = t.length by rw [wrap_of _ (by omega) (by omega)]; omega]
    repeat' refine ifA_dec (fun _ => ?_) (fun _ => ?_)
    all_goals first
      | (have h : readOk (a :: b :: t) = false := by (simp [readOk]; omega)
         simp [readRes, h, Res.c]; done)
      | (have h : readOk (a :: b :: t) = true := by (simp [readOk]; omega)
         simp [readRes, h, Res.c]
         rw [wrap_u8 (by omega) (by omega), wrap_of _ (by omega) (by omega)]; done)
theorem szResult_ac {own : Bool} {x : Res} {c : List Value} {F : List Nat} {H : Heap} (h : ResR own H x c F) (hx : okS x.text) (left : Int) (hl : 0 ≤ left ∧ left ≤ 1048576) : AC Tryd.prog ng 5 [.agg c.toArray, int left] H fun v S' => v = int (szR left (x.text.length + wL List.length x.chain)) ∧ S' = H := by
  obtain ⟨s, rfl, h⟩ := h
  obtain ⟨a, z, rfl⟩ := h.form
  unfold okS at hx
  refine .flat (AC.go [] Tryd.func5 rfl Tryd.ntmps5 rfl ⟨mixed, by kernel_rfl⟩ ?_)
  simp +contextual (dsimp := false) [show IntKind.i64.wrap (left - (x.text.length : Int)) = left - x.text.length from wrap_of _ (by omega) (by omega)]
  refine ifA_dec (fun h1 => ?_) (fun h1 => ?_)
  · rw [szR_neg (by omega)]
  · refine CallK.fl ⟨_, Tryd.func15, rfl, rfl⟩ (szStringS_ac (Rp.ext h (Ext.app _ _)) (left - x.text.length) (by omega)) ?_
    simp +contextual (dsimp := false)
    refine ifA_dec (fun h2 => ?_) (fun h2 => ?_)
    · rw [szR_lt (by omega)] at h2; rw [szR_neg (by omega)]
    · rw [szR_lt (by omega)] at h2; rw [szR_ge (by omega), szR_ge (by omega)]; omega
theorem toResult_ac {own : Bool} {x : Res} {c : List Value} {F : List Nat} {H : Heap} (h : ResR own H x c F) (hl : x.chain.length ≤ 1048576) : AC Tryd.prog ng 7 [.agg c.toArray] H fun v S' => ∃ c' F', v = .agg c'.toArray ∧ Ext H S' ∧ ResR true S' x c' F' ∧ Fresh H.length F' := by
  obtain ⟨s, rfl, h⟩ := h
  obtain ⟨a, z, rfl⟩ := h.form
  refine AC.go [] Tryd.func7 rfl Tryd.ntmps7 rfl ⟨mixed, by kernel_rfl⟩ ?_
  simp +contextual (dsimp := false)
  refine CallK.of ⟨_, Tryd.func17, rfl, rfl⟩ (toStringS_ac (Rp.ext h (Ext.app _ _)) hl) ?_
  rintro v S' ⟨F', he, hv, hf⟩
  obtain ⟨a', z', rfl⟩ := hv.form
  obtain ⟨G, rfl⟩ := he.split
  try simp only [List.append_assoc, List.cons_append, List.nil_append] at hv ⊢
  simp at hf
  simp +contextual (dsimp := false)
  exact ⟨F', ⟨_, rfl, Rp.fr hv fun i hi => by exact fr_drop 3 (by rfl) (hf.1 i hi)⟩, fun i hi => by have := hf.1 i hi; omega, hf.2⟩
theorem l1Dec_small {m : Nat} (hm : m < 10) {e : Int} (he : e = m) (H : Heap) : AC Tryd.prog ng 16 [int e] H fun v S' => v = str [dig m] ∧ S' = H := by
  subst he
  refine .flat (AC.go [(3, .take 0 <| .take 1 <| .take 3 <| .take 4 <| .take 5 <| .take 6 <| .two 2 [] (.one 7 [] <| .take 8 <| .take 9 <| .take 10 <| .done) 7 [] (.take 8 <| .one 2 [8] <| .take 9 <| .take 10 <| .done))] Tryd.func16 rfl Tryd.ntmps16 rfl ⟨mixed, by kernel_rfl⟩ ?_)
  have e3 : IntKind.u8.wrap (IntKind.i64.wrap (48 + (m : Int))) = ((48 + m % 10 : Nat) : Int) := by
    rw [wrap_of _ (by omega) (by omega), wrap_u8 (by omega) (by omega)]; omega
  simp (dsimp := false) [show (m : Int) < 10 by omega]
  rw [e3]
  refine ConvK.of (v := str [dig m]) (conv_byteN (m := 48 + m % 10) und31 und5 und9 (by omega) (by rw [List.getElem?_append_right (Nat.le_refl _), Nat.sub_self]; rfl)) ?_
  simp +contextual (dsimp := false)
end Go.Proofs.YtiimabmdokpmbaaDoor

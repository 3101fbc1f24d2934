/- Results: the laws' helpers, ReadResult. No condition. -/
import Derived.Test.YtbigpkfdeaigeaaDoorStr
namespace Go.Proofs.YtbigpkfdeaigeaaDoor
open Go Go.Am
set_option linter.unusedSimpArgs false
set_option linter.unusedVariables false
set_option maxRecDepth 20000
variable {ng : Nat}

theorem implReadResult_ac (l : List UInt8) (hl : l.length ≤ 1048576) (H : Heap) : AC Tryd.prog ng 8 [str l] H fun v S' => v = .tuple #[.agg (readRes l).c.toArray, .bool (readOk l)] ∧ S' = H := by
  rcases l with _ | ⟨a, _ | ⟨b, t⟩⟩
  · refine .flat (AC.go [] Tryd.func8 rfl Tryd.ntmps8 rfl ⟨mixed, by kernel_rfl⟩ ?_)
    simp (dsimp := false)
    exact ⟨rfl, rfl⟩
  · refine .flat (AC.go [] Tryd.func8 rfl Tryd.ntmps8 rfl ⟨mixed, by kernel_rfl⟩ ?_)
    simp (dsimp := false)
    exact ⟨rfl, rfl⟩
  · have hl2 : t.length ≤ 1048574 := by simpa using hl
    refine .flat (AC.go [] Tryd.func8 rfl Tryd.ntmps8 rfl ⟨mixed, by kernel_rfl⟩ ?_)
    simp +contextual (dsimp := false) [show ¬ ((t.length : Int) + 1 + 1 < 2) by omega, show (2 : Int) ≤ (t.length : Int) + 1 + 1 by omega, show IntKind.i64.wrap ((t.length : Int) + 1 + 1 - 2) = t.length by rw [wrap_of _ (by omega) (by omega)]; omega]
    repeat' refine ifA_dec (fun _ => ?_) (fun _ => ?_)
    all_goals first
      | (have h : readOk (a :: b :: t) = false := by (simp [readOk]; omega)
         simp [readRes, h, Res.c]; done)
      | (have h : readOk (a :: b :: t) = true := by (simp [readOk]; omega)
         simp [readRes, h, Res.c]
         rw [wrap_u8 (by omega) (by omega), wrap_of _ (by omega) (by omega)]; done)
theorem specReadResult_ac (l : List UInt8) (hl : l.length ≤ 1048576) (H : Heap) : AC Tryd.prog ng 11 [str l] H fun v S' => v = .tuple #[.agg (readRes l).c.toArray, .bool (readOk l)] ∧ S' = H := by
  rcases l with _ | ⟨a, _ | ⟨b, t⟩⟩
  · refine .flat (AC.go [] Tryd.func11 rfl Tryd.ntmps11 rfl ⟨mixed, by kernel_rfl⟩ ?_)
    simp (dsimp := false)
    exact ⟨rfl, rfl⟩
  · refine .flat (AC.go [] Tryd.func11 rfl Tryd.ntmps11 rfl ⟨mixed, by kernel_rfl⟩ ?_)
    simp (dsimp := false)
    exact ⟨rfl, rfl⟩
  · have hl2 : t.length ≤ 1048574 := by simpa using hl
    refine .flat (AC.go [] Tryd.func11 rfl Tryd.ntmps11 rfl ⟨mixed, by kernel_rfl⟩ ?_)
    simp +contextual (dsimp := false) [show ¬ ((t.length : Int) + 1 + 1 < 2) by omega, show (2 : Int) ≤ (t.length : Int) + 1 + 1 by omega, show IntKind.i64.wrap ((t.length : Int) + 1 + 1 - 2) = t.length by rw [wrap_of _ (by omega) (by omega)]; omega]
    repeat' refine ifA_dec (fun _ => ?_) (fun _ => ?_)
    all_goals first
      | (have h : readOk (a :: b :: t) = false := by (simp [readOk]; omega)
         simp [readRes, h, Res.c]; done)
      | (have h : readOk (a :: b :: t) = true := by (simp [readOk]; omega)
         simp [readRes, h, Res.c]
         rw [wrap_u8 (by omega) (by omega), wrap_of _ (by omega) (by omega)]; done)
theorem l1Dec_small {m : Nat} (hm : m < 10) {e : Int} (he : e = m) (H : Heap) : AC Tryd.prog ng 23 [int e] H fun v S' => v = str [dig m] ∧ S' = H := by
  subst he
  refine .flat (AC.go [(3, .take 0 <| .take 1 <| .take 3 <| .take 4 <| .take 5 <| .take 6 <| .two 2 [] (.one 7 [] <| .take 8 <| .take 9 <| .take 10 <| .done) 7 [] (.take 8 <| .one 2 [8] <| .take 9 <| .take 10 <| .done))] Tryd.func23 rfl Tryd.ntmps23 rfl ⟨mixed, by kernel_rfl⟩ ?_)
  have e3 : IntKind.u8.wrap (IntKind.i64.wrap (48 + (m : Int))) = ((48 + m % 10 : Nat) : Int) := by
    rw [wrap_of _ (by omega) (by omega), wrap_u8 (by omega) (by omega)]; omega
  simp (dsimp := false) [show (m : Int) < 10 by omega]
  rw [e3]
  refine ConvK.of (v := str [dig m]) (conv_byteN (m := 48 + m % 10) und22 und5 und9 (by omega) (by rw [List.getElem?_append_right (Nat.le_refl _), Nat.sub_self]; rfl)) ?_
  simp +contextual (dsimp := false)
end Go.Proofs.YtbigpkfdeaigeaaDoor

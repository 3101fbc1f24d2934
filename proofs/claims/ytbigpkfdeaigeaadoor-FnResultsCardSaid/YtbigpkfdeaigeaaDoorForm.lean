import Derived.Test.YtbigpkfdeaigeaaDoorF1
import Derived.Test.YtbigpkfdeaigeaaDoorRes
/- Small numbers as text. No condition. -/
namespace Go.Proofs.YtbigpkfdeaigeaaDoor
open Go Go.Am
set_option linter.unusedSimpArgs false
set_option linter.unusedVariables false
set_option maxRecDepth 20000
variable {ng : Nat}

theorem small_part : ∀ m : Fin 10, ((([48, 49, 50, 51, 52, 53, 54, 55, 56, 57, 97, 98, 99, 100, 101, 102, 103, 104, 105, 106, 107, 108, 109, 110, 111, 112, 113, 114, 115, 116, 117, 118, 119, 120, 121, 122] : List UInt8).take (m.val + 1)).drop m.val) = [dig m.val] := by decide
theorem small_small {m : Nat} (hm : m < 10) (H : Heap) : AC Tryd.prog ng 55 [int m] H fun v S' => v = str [dig m] ∧ S' = H := by
  refine .flat (AC.go [] Tryd.func55 rfl Tryd.ntmps55 rfl ⟨mixed, by kernel_rfl⟩ ?_)
  simp (dsimp := false) [show (m : Int) < 10 by omega, wrap_succ (show m < 9223372036854775807 by omega)]
  have key : sliceZ Tryd.prog (some TypeDesc.string) (Value.string { data := #[48, 49, 50, 51, 52, 53, 54, 55, 56, 57, 97, 98, 99, 100, 101, 102, 103, 104, 105, 106, 107, 108, 109, 110, 111, 112, 113, 114, 115, 116, 117, 118, 119, 120, 121, 122] }) (some (int m)) (some (int ((m : Int) + 1))) none = some (str [dig m]) := by
    have h := sliceZ_mid (P := Tryd.prog) (l := [48, 49, 50, 51, 52, 53, 54, 55, 56, 57, 97, 98, 99, 100, 101, 102, 103, 104, 105, 106, 107, 108, 109, 110, 111, 112, 113, 114, 115, 116, 117, 118, 119, 120, 121, 122]) (k := .i64) (k' := .i64) (j := (m : Int)) (j' := (m : Int) + 1) (by omega) (by omega) (by simp; omega)
    rw [show ((m : Int) + 1).toNat = m + 1 by omega, show ((m : Int)).toNat = m by omega, small_part ⟨m, hm⟩] at h
    exact h
  rw [key]
  simp +contextual (dsimp := false)
theorem formatInt_small {m : Nat} (hm : m < 10) (H : Heap) : AC Tryd.prog ng 49 [.int .i64 m, int 10] H fun v S' => v = str [dig m] ∧ S' = H := by
  refine .flat (AC.go [] Tryd.func49 rfl Tryd.ntmps49 rfl ⟨mixed, by kernel_rfl⟩ ?_)
  simp (dsimp := false) [show (m : Int) < 100 by omega]
  refine CallK.fl ⟨_, Tryd.func55, rfl, rfl⟩ (small_small hm _) ?_
  simp +contextual (dsimp := false)
theorem itoaIn_small {m : Nat} (hm : m < 10) (H : Heap) : AC Tryd.prog ng 35 [int m] H fun v S' => v = str [dig m] ∧ S' = H := by
  refine .flat (AC.go [] Tryd.func35 rfl Tryd.ntmps35 rfl ⟨mixed, by kernel_rfl⟩ ?_)
  simp +contextual (dsimp := false)
  refine CallK.fl ⟨_, Tryd.func49, rfl, rfl⟩ (formatInt_small hm _) ?_
  simp +contextual (dsimp := false)
theorem itoa_small {m : Nat} (hm : m < 10) {e : Int} (he : e = m) (H : Heap) : AC Tryd.prog ng 22 [int e] H fun v S' => v = str [dig m] ∧ S' = H := by
  subst he
  refine .flat (AC.go [] Tryd.func22 rfl Tryd.ntmps22 rfl ⟨mixed, by kernel_rfl⟩ ?_)
  simp +contextual (dsimp := false)
  refine CallK.fl ⟨_, Tryd.func35, rfl, rfl⟩ (itoaIn_small hm _) ?_
  simp +contextual (dsimp := false)
end Go.Proofs.YtbigpkfdeaigeaaDoor

/- FormResult, its law's walk. No condition. -/
namespace Go.Proofs.YtbigpkfdeaigeaaDoor
open Go Go.Am
set_option linter.unusedSimpArgs false
set_option linter.unusedVariables false
set_option maxRecDepth 20000
variable {ng : Nat}

theorem implFormResult_ac {own : Bool} {x : Res} {c : List Value} {F : List Nat} {H : Heap} (h : ResR own H x c F) (hx : okS x.text) : AC Tryd.prog ng 6 [.agg c.toArray] H fun v S' => v = str (formRes x) ∧ S' = H := by
  obtain ⟨s, rfl, h⟩ := h
  obtain ⟨a, z, rfl⟩ := h.form
  unfold okS at hx
  refine .flat (AC.go [(3, .take 0 <| .take 4 <| .take 1 <| .take 5 <| .one 2 [5] <| .take 3 <| .take 6 <| .take 7 <| .done)] Tryd.func6 rfl Tryd.ntmps6 rfl ⟨mixed, by kernel_rfl⟩ ?_)
  simp +contextual (dsimp := false)
  repeat' refine ifA_dec (fun _ => ?_) (fun _ => ?_)
  all_goals try (have h0 : formOk x = false := by (simp only [formOk, Bool.and_eq_false_iff, decide_eq_false_iff_not]; omega)
                 rw [formRes, h0]; rfl)
  have h1 : formOk x = true := by simp only [formOk, Bool.and_eq_true, decide_eq_true_eq]; omega
  refine CallK.fl ⟨_, Tryd.func22, rfl, rfl⟩ (itoa_small (m := x.code.toNat) (by omega) (by omega) _) ?_
  simp +contextual (dsimp := false)
  rw [bin_ladd (by simp; omega)]
  simp +contextual (dsimp := false)
  rw [formRes, if_pos h1]
theorem specFormResult_ac {own : Bool} {x : Res} {c : List Value} {F : List Nat} {H : Heap} (h : ResR own H x c F) (hx : okS x.text) : AC Tryd.prog ng 7 [.agg c.toArray] H fun v S' => v = str (formRes x) ∧ S' = H := by
  obtain ⟨s, rfl, h⟩ := h
  obtain ⟨a, z, rfl⟩ := h.form
  unfold okS at hx
  refine .flat (AC.go [(3, .take 0 <| .take 4 <| .take 1 <| .take 5 <| .one 2 [5] <| .take 3 <| .take 6 <| .take 7 <| .done)] Tryd.func7 rfl Tryd.ntmps7 rfl ⟨mixed, by kernel_rfl⟩ ?_)
  simp +contextual (dsimp := false)
  repeat' refine ifA_dec (fun _ => ?_) (fun _ => ?_)
  all_goals try (have h0 : formOk x = false := by (simp only [formOk, Bool.and_eq_false_iff, decide_eq_false_iff_not]; omega)
                 rw [formRes, h0]; rfl)
  have h1 : formOk x = true := by simp only [formOk, Bool.and_eq_true, decide_eq_true_eq]; omega
  refine CallK.fl ⟨_, Tryd.func23, rfl, rfl⟩ (l1Dec_small (m := x.code.toNat) (by omega) (by omega) _) ?_
  simp +contextual (dsimp := false)
  rw [bin_ladd (by simp; omega)]
  simp +contextual (dsimp := false)
  rw [formRes, if_pos h1]
end Go.Proofs.YtbigpkfdeaigeaaDoor

/- Small numbers as text. No condition. -/
import Derived.Test.YtiimabmdokpmbaaDoorM
namespace Go.Proofs.YtiimabmdokpmbaaDoor
open Go Go.Am
set_option linter.unusedSimpArgs false
set_option linter.unusedVariables false
set_option maxRecDepth 20000
variable {ng : Nat}

theorem small_part : ∀ m : Fin 10, ((([48, 49, 50, 51, 52, 53, 54, 55, 56, 57, 97, 98, 99, 100, 101, 102, 103, 104, 105, 106, 107, 108, 109, 110, 111, 112, 113, 114, 115, 116, 117, 118, 119, 120, 121, 122] : List UInt8).take (m.val + 1)).drop m.val) = [dig m.val] := by decide
theorem small_small {m : Nat} (hm : m < 10) (H : Heap) : AC Tryd.prog ng 28 [int m] H fun v S' => v = str [dig m] ∧ S' = H := by
  refine .flat (AC.go [] Tryd.func28 rfl Tryd.ntmps28 rfl ⟨mixed, by kernel_rfl⟩ ?_)
  simp (dsimp := false) [show (m : Int) < 10 by omega, wrap_succ (show m < 9223372036854775807 by omega)]
  have key : sliceZ Tryd.prog (some TypeDesc.string) (Value.string { data := #[48, 49, 50, 51, 52, 53, 54, 55, 56, 57, 97, 98, 99, 100, 101, 102, 103, 104, 105, 106, 107, 108, 109, 110, 111, 112, 113, 114, 115, 116, 117, 118, 119, 120, 121, 122] }) (some (int m)) (some (int ((m : Int) + 1))) none = some (str [dig m]) := by
    have h := sliceZ_mid (P := Tryd.prog) (l := [48, 49, 50, 51, 52, 53, 54, 55, 56, 57, 97, 98, 99, 100, 101, 102, 103, 104, 105, 106, 107, 108, 109, 110, 111, 112, 113, 114, 115, 116, 117, 118, 119, 120, 121, 122]) (k := .i64) (k' := .i64) (j := (m : Int)) (j' := (m : Int) + 1) (by omega) (by omega) (by simp; omega)
    rw [show ((m : Int) + 1).toNat = m + 1 by omega, show ((m : Int)).toNat = m by omega, small_part ⟨m, hm⟩] at h
    exact h
  rw [key]
  simp +contextual (dsimp := false)
theorem formatInt_small {m : Nat} (hm : m < 10) (H : Heap) : AC Tryd.prog ng 27 [.int .i64 m, int 10] H fun v S' => v = str [dig m] ∧ S' = H := by
  refine .flat (AC.go [] Tryd.func27 rfl Tryd.ntmps27 rfl ⟨mixed, by kernel_rfl⟩ ?_)
  simp (dsimp := false) [show (m : Int) < 100 by omega]
  refine CallK.fl ⟨_, Tryd.func28, rfl, rfl⟩ (small_small hm _) ?_
  simp +contextual (dsimp := false)
theorem itoaIn_small {m : Nat} (hm : m < 10) (H : Heap) : AC Tryd.prog ng 26 [int m] H fun v S' => v = str [dig m] ∧ S' = H := by
  refine .flat (AC.go [] Tryd.func26 rfl Tryd.ntmps26 rfl ⟨mixed, by kernel_rfl⟩ ?_)
  simp +contextual (dsimp := false)
  refine CallK.fl ⟨_, Tryd.func27, rfl, rfl⟩ (formatInt_small hm _) ?_
  simp +contextual (dsimp := false)
theorem itoa_small {m : Nat} (hm : m < 10) {e : Int} (he : e = m) (H : Heap) : AC Tryd.prog ng 18 [int e] H fun v S' => v = str [dig m] ∧ S' = H := by
  subst he
  refine .flat (AC.go [] Tryd.func18 rfl Tryd.ntmps18 rfl ⟨mixed, by kernel_rfl⟩ ?_)
  simp +contextual (dsimp := false)
  refine CallK.fl ⟨_, Tryd.func26, rfl, rfl⟩ (itoaIn_small hm _) ?_
  simp +contextual (dsimp := false)
end Go.Proofs.YtiimabmdokpmbaaDoor

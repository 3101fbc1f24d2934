/- Names; the order of strings; looking for a name. No condition. -/
import Derived.Test.YtbigpkfdeaigeaaGreatDoorSpec
import Derived.Test.YtbigpkfdeaigeaaGreatDoorF2
import Derived.Test.YtbigpkfdeaigeaaGreatDoorShelf
set_option linter.unusedSimpArgs false
set_option linter.unusedVariables false
namespace Go.Proofs.YtbigpkfdeaigeaaGreatDoor
open Go Go.Am Go.Proofs
set_option maxRecDepth 20000
variable {ng : Nat}
theorem isName_ac (s : List UInt8) (hs : okS s) (H : Heap) : AC Tryz.prog ng 136 [str s] H fun v S' => v = .bool (nameOk s) ∧ S' = H := by
  unfold okS at hs
  refine .flat (AC.go [] Tryz.func136 rfl Tryz.ntmps136 rfl ⟨mixed, by kernel_rfl⟩ ?_)
  simp +contextual (dsimp := false)
  refine LoopA.up (σ := Nat) [0, 3] (fun i => [(3, int i)]) (fun i => H) (fun i => i ≤ s.length ∧ ∀ y ∈ s.take i, nameB y = true) (fun i => s.length - i) 0 rfl (by simp) ?_
  rintro i ⟨hi, hv⟩
  simp +contextual (dsimp := false)
  refine ifA_dec (fun h3 => ?_) (fun h3 => ?_)
  · simp +contextual (dsimp := false) [h3, wrap_succ (show i < 9223372036854775807 by omega)]
    refine ifA_dec (fun h4 => ?_) (fun h4 => ?_)
    · exact nameOk_bad h3 (by simp [nameB]; omega)
    refine ifA_dec (fun h5 => ?_) (fun h5 => ?_)
    · exact nameOk_bad h3 (by simp [nameB]; omega)
    exact LoopN.of (i + 1) rfl ⟨h3, all_take hv h3 (by simp [nameB]; omega)⟩ (by omega)
  · rw [nameOk_all (all_end hv (by omega))]
    refine ifA_dec (fun h4 => ?_) (fun h4 => ?_)
    · rw [Bool.eq_iff_iff]
      simp only [Bool.and_eq_true, decide_eq_true_eq]
      omega
    · rw [Bool.eq_iff_iff]
      simp only [Bool.and_eq_true, decide_eq_true_eq]
      simp
      omega
theorem l1NameOk_ac (s : List UInt8) (hs : okS s) (H : Heap) : AC Tryz.prog ng 66 [str s] H fun v S' => v = .bool (nameOk s) ∧ S' = H := by
  unfold okS at hs
  refine .flat (AC.go [] Tryz.func66 rfl Tryz.ntmps66 rfl ⟨mixed, by kernel_rfl⟩ ?_)
  simp +contextual (dsimp := false)
  refine ifA_dec (fun h1 => ?_) (fun h1 => ?_)
  · simp [nameOk]
    omega
  refine ifA_dec (fun h2 => ?_) (fun h2 => ?_)
  · simp [nameOk]
    omega
  refine LoopA.up (σ := Nat) [0, 3] (fun i => [(3, int i)]) (fun i => H) (fun i => i ≤ s.length ∧ ∀ y ∈ s.take i, nameB y = true) (fun i => s.length - i) 0 rfl (by simp) ?_
  rintro i ⟨hi, hv⟩
  simp +contextual (dsimp := false)
  refine ifA_dec (fun h3 => ?_) (fun h3 => ?_)
  · simp +contextual (dsimp := false) [h3, wrap_succ (show i < 9223372036854775807 by omega)]
    refine ifA_dec (fun h4 => ?_) (fun h4 => ?_)
    · exact nameOk_bad h3 (by simp [nameB]; omega)
    refine ifA_dec (fun h5 => ?_) (fun h5 => ?_)
    · exact nameOk_bad h3 (by simp [nameB]; omega)
    exact LoopN.of (i + 1) rfl ⟨h3, all_take hv h3 (by simp [nameB]; omega)⟩ (by omega)
  · rw [nameOk_all (all_end hv (by omega))]
    simp
    omega
end Go.Proofs.YtbigpkfdeaigeaaGreatDoor

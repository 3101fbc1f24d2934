/- The drawn laws' own comparisons. No condition. -/
import Derived.Test.YtbigpkfdeaigeaaDoorSam
set_option linter.unusedSimpArgs false
set_option linter.unusedVariables false
namespace Go.Proofs.YtbigpkfdeaigeaaDoor
open Go Go.Am Go.Proofs
set_option maxRecDepth 20000
variable {ng : Nat}
theorem wProgram_ac {o1 o2 : Bool} {l1 l2 : List Ins} {s1 s2 : Value} {F1 F2 : List Nat} {H : Heap} (hs1 : CodeR o1 H l1 [s1] F1) (hs2 : CodeR o2 H l2 [s2] F2) : AC Tryd.prog ng 17 [.agg #[s1], .agg #[s2]] H fun v S' => v = .bool (decide (l1 = l2)) ∧ S' = H := by
  obtain ⟨a1, z1, rfl⟩ := hs1.form
  obtain ⟨a2, z2, rfl⟩ := hs2.form
  have hb1 := hs1.bound
  refine .flat (AC.go [] Tryd.func17 rfl Tryd.ntmps17 rfl ⟨mixed, by kernel_rfl⟩ ?_)
  by_cases hl : l1.length = l2.length
  · have hl' : (l1.length : Int) = (l2.length : Int) := by omega
    simp +contextual (dsimp := false) [hl, hl']
    refine LoopA.upc (σ := Nat) [2, 3, 5] (fun i => [(5, int i)]) (fun i => i ≤ l2.length ∧ ∀ j (h1 : j < l1.length) (h2 : j < l2.length), j < i → l1[j] = l2[j]) (fun i => l2.length - i) 0 rfl (by simp) ?_
    rintro i ⟨hi, hv⟩
    simp +contextual (dsimp := false)
    refine ifA_dec (fun h3 => ?_) (fun h3 => ?_)
    · have h3' : i < l1.length := by omega
      obtain ⟨id, o, c, e, f, ow, cs, Fi, E⟩ := SlR.get hs1 i h3'
      obtain ⟨rfl, rfl, hok⟩ := E.rep
      obtain ⟨id', o', c', e', f', ow', cs', Fi', E'⟩ := SlR.get hs2 i h3
      obtain ⟨rfl, rfl, hok'⟩ := E'.rep
      have hx1 := E.idx
      have hx2 := E'.idx
      rw [hl] at hx1
      simp +contextual (dsimp := false) [hl, hx1, hx2, E.goB, E.le, E.lt, E.ext, E'.goB, E'.le, E'.lt, E'.ext, bin_insne, wrap_succ (show i < 9223372036854775807 by omega)]
      refine ifA_dec (fun h4 => ?_) (fun h4 => ?_)
      · exact LoopN.of (i + 1) rfl ⟨h3, fun j q1 q2 hlt => by
          rcases Nat.lt_or_ge j i with h | h
          · exact hv j q1 q2 h
          · obtain rfl : j = i := by omega
            exact h4⟩ (by omega)
      · first
          | (intro hc; apply h4; subst hc; rfl)
          | (simp; intro hc; apply h4; subst hc; rfl)
    · have : l1 = l2 := List.ext_getElem hl fun j q1 q2 => hv j q1 q2 (by omega)
      simp [this]
  · have hl' : ¬ (l1.length : Int) = (l2.length : Int) := by omega
    simp +contextual (dsimp := false) [hl, hl']
    intro hc
    exact hl (by rw [hc])
end Go.Proofs.YtbigpkfdeaigeaaDoor

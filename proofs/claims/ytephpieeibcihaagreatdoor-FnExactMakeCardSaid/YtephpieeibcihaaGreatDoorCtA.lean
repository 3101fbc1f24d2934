import Derived.Test.YtephpieeibcihaaGreatDoorHrs
import Derived.Test.YtephpieeibcihaaGreatDoorAccN
import Derived.Test.YtephpieeibcihaaGreatDoorDrp
import Derived.Test.YtephpieeibcihaaGreatDoorAm28
set_option linter.all false
namespace Go.Proofs.YtephpieeibcihaaGreatDoor
open Go Go.Am Go.Proofs
set_option maxRecDepth 20000
variable {ng : Nat}
theorem l3At_ac {own : Bool} {ds : List Deed} {sd : Value} {F : List Nat} {H : Heap} (hs : DeedsR own H ds [sd] F) (n : List UInt8) :
    AC Tryz.prog ng 126 [.agg #[sd], str n] H fun v S' => v = int (idxI ds n) ∧ S' = H := by
  obtain ⟨a, z, rfl⟩ := hs.form
  have hbd := hs.bound
  refine .flat (AC.go [] Tryz.func126 rfl Tryz.ntmps126 rfl ⟨mixed, by kernel_rfl⟩ ?_)
  simp +contextual (dsimp := false)
  refine LoopA.up (σ := Nat × Heap) [1, 2, 5] (fun i => [(5, int i.1)]) (fun i => i.2) (fun i => i.1 ≤ ds.length ∧ Ext (H ++ [(⟨.cells #[.slice a ds.length z] 58 (0, 0), true, true⟩ : Blk)]) i.2 ∧ ∀ j (hj : j < ds.length), j < i.1 → ds[j].name ≠ n) (fun x => ds.length - x.1) (0, _) rfl ⟨by simp, by first | exact Ext.app _ _ | exact Ext.refl _ | (refine Ext.of ?_; simp), by simp⟩ ?_
  rintro ⟨i, hp⟩ ⟨hi, he, hv⟩
  dsimp only at hi he hv
  have hex : Ext H hp := (Ext.app _ _).trans he
  have hbx : hp[H.length]? = _ := (he _ (by simp)).trans (by simp; rfl)
  simp +contextual (dsimp := false) [hbx]
  refine ifA_dec (fun h3 => ?_) (fun h3 => ?_)
  · obtain ⟨id, o, c, e, f, ow, cs, Fi, E⟩ := SlR.get (Rp.ext hs hex) i h3
    obtain ⟨hkk, s1, s2, G1, G2, rfl, hFi, hc1, hc2⟩ := E.rep
    have hle := E.le
    simp +contextual (dsimp := false) [E.idx, E.goB, E.le, E.lt, E.ext, E.cell0 (by decide), hbx, show o + 1 ≤ c.size by omega, wrap_succ (show i < 9223372036854775807 by omega)]
    refine ifA_dec (fun h4 => ?_) (fun h4 => ?_)
    · rw [idxI_hit h3 h4 hv]
      simp [hex]
    · exact LoopN.of (i + 1, _) rfl ⟨h3, he, fun j hj hlt => by
        rcases Nat.lt_or_ge j i with h | h
        · exact hv j hj h
        · obtain rfl : j = i := by dsimp only at hlt; omega
          exact h4⟩ (by dsimp only; omega)
  · rw [idxI_none fun j hj => hv j hj (by omega)]
    simp [hex]
end Go.Proofs.YtephpieeibcihaaGreatDoor

/- Lists of strings: the laws' helpers. No condition. -/
import Derived.Test.YtephpieeibcihaaGreatDoorF2
namespace Go.Proofs.YtephpieeibcihaaGreatDoor
open Go Go.Am
set_option linter.unusedSimpArgs false
set_option linter.unusedVariables false
set_option maxRecDepth 20000
variable {ng : Nat}

theorem markText_ac (k : Nat) {e : Int} (he : e = k) (hk : k ≤ 1000000000) (H : Heap) : AC Tryz.prog ng 54 [int e] H fun v S' => v = str (mText k) ∧ S' = H := by
  subst he
  refine .flat (AC.go [] Tryz.func54 rfl Tryz.ntmps54 rfl ⟨mixed, by kernel_rfl⟩ ?_)
  simp +contextual (dsimp := false)
  refine ifA_dec (fun h => ?_) (fun h => ?_)
  · simp [mText, show k = 0 by omega]
  · refine LoopA.by (σ := Nat × List UInt8 × Heap) [0, 3] (fun x => ⟨slots 0 20 [(0, int x.1), (3, str x.2.1)], x.2.2⟩) (fun x => x.2.1.length + x.1 ≤ k ∧ mDig x.1 x.2.1 = mDig k [] ∧ Ext H x.2.2) (fun x => x.1) (k, [], H) rfl ⟨by simp, rfl, Ext.refl _⟩ ?_
    rintro ⟨i, o, hp⟩ ⟨hi, hv, he⟩
    dsimp only at hi hv he
    simp +contextual (dsimp := false)
    have e1 : ((i : Nat) : Int).tmod 10 = ((i % 10 : Nat) : Int) := by simp [Int.tmod_eq_emod_of_nonneg]
    have e2 : ((i : Nat) : Int).tdiv 10 = ((i / 10 : Nat) : Int) := by simp [Int.tdiv_eq_ediv_of_nonneg]
    have e3 : IntKind.u8.wrap (IntKind.i64.wrap (48 + ((i % 10 : Nat) : Int))) = ((48 + i % 10 : Nat) : Int) := by
      rw [wrap_of _ (by omega) (by omega), wrap_u8 (by omega) (by omega)]; omega
    refine ifA_dec (fun h3 => ?_) (fun h3 => ?_)
    · rw [e1, e3]
      refine ConvK.of (v := str [dig i]) (conv_byteN (m := 48 + i % 10) und152 und5 und9 (by omega) (by rw [List.getElem?_append_right (Nat.le_refl _), Nat.sub_self]; rfl)) ?_
      simp +contextual (dsimp := false) [bin_ladd (show [dig i].length + o.length ≤ 9223372036854775807 by simp; omega), show IntKind.i64.wrap ((i : Int) / 10) = (i : Int) / 10 from wrap_of _ (by omega) (by omega)]
      refine LoopN.of (i / 10, dig i :: o, _) (by rw [show (i : Int) / 10 = ((i / 10 : Nat) : Int) by omega]; rfl) ⟨?_, ?_, he.trans (Ext.app _ _)⟩ ?_
      · simp
        omega
      · rw [← hv]
        exact (mDig_s (by omega) o).symm
      · dsimp only
        omega
    · obtain rfl : i = 0 := by omega
      rw [mDig_z] at hv
      rw [show (Value.string { data := #[109] }) = str [109] from rfl, bin_ladd (by simp; omega)]
      simp +contextual (dsimp := false)
      simp [mText, h, hv, he]
end Go.Proofs.YtephpieeibcihaaGreatDoor

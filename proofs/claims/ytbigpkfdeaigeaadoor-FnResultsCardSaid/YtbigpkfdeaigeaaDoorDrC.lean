/- What is drawn to be read as a result; a program that is drawn. No condition. -/
import Derived.Test.YtbigpkfdeaigeaaDoorDrB
import Derived.Test.YtbigpkfdeaigeaaDoorDrS
import Derived.Test.YtbigpkfdeaigeaaDoorForm
import Derived.Test.YtbigpkfdeaigeaaDoorRes
set_option linter.unusedSimpArgs false
set_option linter.unusedVariables false
namespace Go.Proofs.YtbigpkfdeaigeaaDoor
open Go Go.Am Go.Proofs
set_option maxRecDepth 100000
variable {ng : Nat}
theorem formRes_len {x : Res} : (formRes x).length ≤ x.text.length + 2 := by
  unfold formRes
  split <;> simp
theorem DrawReadResult_ac {own : Bool} {l : List UInt8} {sl : Value} {F : List Nat} {H : Heap} (hs : BytesR own H l [sl] F) : AC Tryd.prog ng 10 [sl] H fun v S' => ∃ t : List UInt8, v = str t ∧ t.length ≤ 10000 ∧ Ext H S' := by
  obtain ⟨a, z, rfl⟩ := hs.form
  refine AC.go [] Tryd.func10 rfl Tryd.ntmps10 rfl ⟨mixed, by kernel_rfl⟩ ?_
  simp (dsimp := false)
  refine CallK.of ⟨_, Tryd.func18, rfl, rfl⟩ (l1Open_ac hs) ?_
  rintro v S1 ⟨rd, rfl, hge, he1, h1⟩
  simp (dsimp := false)
  refine CallK.of ⟨_, Tryd.func5, rfl, rfl⟩ (DrawFormResult_ac (Rp.ext hs he1)) ?_
  rintro v S2 ⟨x, c, F2, rfl, he2, hx, hf, b1, b2, b3, b4⟩
  have h2 := h1.ext he2
  obtain ⟨cs, rfl, hx'⟩ := id hx
  simp (dsimp := false)
  refine CallK.fl ⟨_, Tryd.func7, rfl, rfl⟩ (specFormResult_ac hx (by unfold okS; omega)) ?_
  have hd2 := Dr.mk0 h2
  have hle := he2.le
  have hlt2 := h1.lt
  have hlF := formRes_len (x := x)
  simp (dsimp := false)
  refine CallK.of ⟨_, Tryd.func19, rfl, rfl⟩ (pickR hd2.rdr (by omega) 3) ?_
  rintro v S3 ⟨k, rfl, -, hk, -, hr, h3⟩
  have hd3 := hd2.step hr h3
  clear hr h3
  simp (dsimp := false)
  refine ifA_dec (fun h => ?_) (fun h => ?_)
  · refine CallK.of ⟨_, Tryd.func25, rfl, rfl⟩ (l1Bend_ac hd3.rdr (by omega) (by omega)) ?_
    rintro v S4 ⟨t, rfl, ht, hd4⟩
    simp (dsimp := false)
    exact ⟨by omega, (hd3.to hd4).exto (he1.trans he2) hge⟩
  · refine CallK.of ⟨_, Tryd.func19, rfl, rfl⟩ (pickR hd3.rdr (by omega) 6) ?_
    rintro v S4 ⟨k2, rfl, -, hk2, -, hr, h3⟩
    have hd4 := hd3.step hr h3
    clear hr h3
    simp (dsimp := false)
    refine ifA_dec (fun h => ?_) (fun h => ?_)
    · refine CallK.of ⟨_, Tryd.func19, rfl, rfl⟩ (pickR hd4.rdr (by omega) 2) ?_
      rintro v S5 ⟨m, rfl, -, hm, -, hr, h3⟩
      have hm := hm (by decide)
      have hd5 := hd4.step hr h3
      clear hr h3
      have wm : IntKind.i64.wrap (2000 + (m : Int)) = ((m + 2000 : Nat) : Int) := (wrap_of _ (by omega) (by omega)).trans (by omega)
      simp (dsimp := false) [wm]
      refine CallK.of ⟨_, Tryd.func21, rfl, rfl⟩ (l1Many_ac (s := [102]) (n := m + 2000) (by simp) (by omega)) ?_
      rintro v S9 ⟨⟨t, rfl, ht⟩, hS⟩
      subst hS
      simp at ht
      have a1 := fun x y => bin_ladd (P := Tryd.prog) (t := 9) (x := x) (y := y) (l := [48, 58]) (r := t) (by simp; omega)
      simp (dsimp := false) [a1]
      exact ⟨by omega, hd5.exto (he1.trans he2) hge⟩
    · exact ⟨by omega, hd4.exto (he1.trans he2) hge⟩
end Go.Proofs.YtbigpkfdeaigeaaDoor

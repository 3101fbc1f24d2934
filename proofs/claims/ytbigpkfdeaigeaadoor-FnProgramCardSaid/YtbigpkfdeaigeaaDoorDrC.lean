/- What is drawn to be read as a result; a program that is drawn. No condition. -/
import Derived.Test.YtbigpkfdeaigeaaDoorDrB
import Derived.Test.YtbigpkfdeaigeaaDoorDrS
import Derived.Test.YtbigpkfdeaigeaaDoorForm
import Derived.Test.YtbigpkfdeaigeaaDoorRes
set_option linter.unusedSimpArgs false
set_option linter.unusedVariables false
namespace Go.Proofs.YtbigpkfdeaigeaaDoor
open Go Go.Am Go.Proofs
set_option maxRecDepth 100000
variable {ng : Nat}
theorem DrawValidProgram_ac {own : Bool} {l : List UInt8} {sl : Value} {F : List Nat} {H : Heap} (hs : BytesR own H l [sl] F) : AC Tryd.prog ng 12 [sl] H fun v S' => ∃ (p : List Ins) (s : Value) (F' : List Nat), v = .agg #[s] ∧ CodeR true S' p [s] F' ∧ Fresh (H.length + 1) F' ∧ p.length ≤ 201 ∧ Ext H S' := by
  obtain ⟨a, z, rfl⟩ := hs.form
  refine AC.go [] Tryd.func12 rfl Tryd.ntmps12 rfl ⟨mixed, by kernel_rfl⟩ ?_
  simp (dsimp := false)
  obtain ⟨H0, hH0⟩ : ∃ H0, H0 = H ++ [(⟨.cells #[.slice none 0 0] 35 (0, 0), true, true⟩ : Blk)] := ⟨_, rfl⟩
  have hx0 : Ext H H0 := by rw [hH0]; exact Ext.app _ _
  have hl0 : H0.length = H.length + 1 := by rw [hH0]; simp
  have hb00 : H0[H.length]? = some (⟨.cells #[.slice none 0 0] 35 (0, 0), true, true⟩ : Blk) := by rw [hH0]; simp
  rw [← hH0]
  refine CallK.of ⟨_, Tryd.func18, rfl, rfl⟩ (l1Open_ac (Rp.ext hs hx0)) ?_
  rintro v S1 ⟨rd, rfl, hge', he1', h1⟩
  have he1 := hx0.trans he1'
  have hge : H.length ≤ rd := by omega
  have hle := he1'.le
  have hb1 := (he1' H.length (by omega)).trans hb00
  have hd1 := Dr.mk0 h1
  simp (dsimp := false)
  refine CallK.of ⟨_, Tryd.func26, rfl, rfl⟩ (l1DrawProgram_ac h1 (by omega)) ?_
  rintro v S2 ⟨p, s, F2, rfl, hp, hf, hv, hd2⟩
  obtain ⟨a2, z2, rfl⟩ := hp.form
  have hpl : p.length ≤ 200 := by
    unfold validP at hv
    simp only [Bool.and_eq_true, decide_eq_true_eq] at hv
    omega
  simp (dsimp := false)
  obtain ⟨S3, hS3⟩ : ∃ q, q = S2 ++ [(⟨.cells #[.slice a2 p.length z2] 35 (0, 0), true, true⟩ : Blk)] := ⟨_, rfl⟩
  have hd3 := hd2.ext (S' := S3) (by rw [hS3]; exact Ext.app _ _)
  have hp3 : CodeR true S3 p [.slice a2 p.length z2] F2 := by rw [hS3]; exact Rp.ext hp (Ext.app _ _)
  have hb3 : S3[S2.length]? = some (⟨.cells #[.slice a2 p.length z2] 35 (0, 0), true, true⟩ : Blk) := by rw [hS3]; simp
  have hl3 : S3.length = S2.length + 1 := by rw [hS3]; simp
  have hle2 := hd2.le
  have hlt := hd1.lt
  rw [← hS3]
  clear hS3
  refine CallK.of ⟨_, Tryd.func19, rfl, rfl⟩ (pickR hd3.rdr (by omega) 2) ?_
  rintro v S4 ⟨k, rfl, -, hk, -, hr, h3⟩
  have hd4 := hd3.step hr h3
  have hp4 := Rdo.rp hp3 hr (hf.rd hlt)
  have hb4 := (hr.2 S2.length (by omega) (by omega)).trans hb3
  clear hr h3
  simp (dsimp := false) [hb4, goB_of hb4]
  refine ifA_dec (fun h => ?_) (fun h => ?_)
  · refine CallK.of ⟨_, Tryd.func27, rfl, rfl⟩ (l1Spoil_ac hd4.rdr (by omega) hp4 (hf.rd hlt) (by omega)) ?_
    rintro v S5 ⟨p5, s5, F5, rfl, hp5, hf5, hl5, hd5'⟩
    have hd5 := hd4.to hd5'
    have hb5 := (hd5.rdo.2 H.length (by omega) (by omega)).trans hb1
    have hle5 := hd5.le
    have hle4 := hd4.le
    obtain ⟨a5, z5, rfl⟩ := hp5.form
    have hself := fun b : Blk => List.getElem?_set_self (l := S5) (i := H.length) (a := b) (by omega)
    simp (dsimp := false) [hb5, goB_of hb5, hself]
    refine ⟨p5, F5, Rp.fr hp5 fun j hj => List.getElem?_set_ne (by have := hf5.1 j hj; omega), hf5.weak (by omega), by omega, fun j hj => ?_⟩
    rw [List.getElem?_set_ne (by omega)]
    exact hd5.exto he1 hge j hj
  · have hb5 := (hd4.rdo.2 H.length (by omega) (by omega)).trans hb1
    have hle4 := hd4.le
    have hself := fun b : Blk => List.getElem?_set_self (l := S4) (i := H.length) (a := b) (by omega)
    simp (dsimp := false) [hb5, goB_of hb5, hself]
    refine ⟨p, F2, Rp.fr hp4 fun j hj => List.getElem?_set_ne (by have := hf.1 j hj; omega), hf.weak (by omega), by omega, fun j hj => ?_⟩
    rw [List.getElem?_set_ne (by omega)]
    exact hd4.exto he1 hge j hj
end Go.Proofs.YtbigpkfdeaigeaaDoor

import Derived.Test.YtephpieeibcihaaGreatDoorShk
import Derived.Test.YtephpieeibcihaaGreatDoorMkI
import Derived.Test.YtephpieeibcihaaGreatDoorCtA
/- Clean, the reference's. No condition. -/
set_option linter.unusedSimpArgs false
set_option linter.unusedVariables false
namespace Go.Am
open Go
/-- What a clean build leaves: its shop. -/
def ShpC (T : TypeId) (s1 s2 : Value) (k : Nat) (S' : Heap) : Mk → Prop
  | .at_ i ds => ∃ sm so st M FM FO, S'[k]? = some ⟨.cells (shpC s1 s2 sm so st (resD (dAt ds i)) (.slice none 0 0) false) T (0, 0), true, true⟩ ∧ MdesR true S' M [sm] FM ∧ StrsR true S' (namesD ds) [so] FO ∧ ShOk M ds []
  | .stop r => ∃ sm so st sc F, S'[k]? = some ⟨.cells (shpC s1 s2 sm so st r sc true) T (0, 0), true, true⟩ ∧ StrsR true S' r.chain [sc] F
end Go.Am
namespace Go.Proofs.YtephpieeibcihaaGreatDoor
open Go Go.Am Go.Proofs
set_option maxRecDepth 20000
variable {ng : Nat}
set_option maxHeartbeats 2000000 in
theorem l2Clean_ac {own : Bool} {sp : Spc} (hsp : checkSpace sp = 0) {H : Heap} {c : List Value} {FS : List Nat} (hs0 : SpcR own H sp c FS) {n : List UInt8} (hn : nameOk n = true) :
    AC Tryz.prog ng 60 [.agg c.toArray, str n] H fun v S' => ∃ s1 s2 k, c = [s1, s2] ∧ v = .pointer (some ⟨k, 0, none⟩) ∧ H.length ≤ k ∧ Ext H S' ∧ ShpC 97 s1 s2 k S' (makeM sp 61 [] [] n) := by
  obtain ⟨s1, s2, F3, F4, rfl, hF, g1, g2⟩ := id hs0
  obtain ⟨a1, z1, rfl⟩ := g1.form
  obtain ⟨a2, z2, rfl⟩ := g2.form
  refine AC.go [] Tryz.func60 rfl Tryz.ntmps60 rfl ⟨mixed, by kernel_rfl⟩ ?_
  simp +contextual (dsimp := false)
  obtain ⟨H1, hH1⟩ : ∃ H1, H1 = H ++ [(⟨.cells #[.slice a1 sp.sources.length z1, .slice a2 sp.targets.length z2] 44 (0, 0), true, true⟩ : Blk), ⟨.cells (shpC (.slice a1 sp.sources.length z1) (.slice a2 sp.targets.length z2) (.slice none 0 0) (.slice none 0 0) (.slice none 0 0) ⟨0, [], []⟩ (.slice none 0 0) false) 97 (0, 0), true, true⟩] := ⟨_, rfl⟩
  have l1 : H1.length = H.length + 2 := by rw [hH1]; simp
  have x1 : Ext H H1 := by rw [hH1]; exact Ext.app _ _
  have k1 : H1[H.length + 1]? = some (⟨.cells (shpC (.slice a1 sp.sources.length z1) (.slice a2 sp.targets.length z2) (.slice none 0 0) (.slice none 0 0) (.slice none 0 0) ⟨0, [], []⟩ (.slice none 0 0) false) 97 (0, 0), true, true⟩ : Blk) := by rw [hH1]; simp
  rw [← hH1]
  clear hH1
  obtain ⟨c1, hc1⟩ : ∃ c1 : Nat → Nat, c1 = fun j => if j = H.length + 1 then 0 else 9 := ⟨_, rfl⟩
  have ca : c1 (H.length + 1) = 0 := by rw [hc1]; exact if_pos rfl
  have cb : ∀ j, j ≠ H.length + 1 → c1 j = 9 := fun j hj => by rw [hc1]; exact if_neg hj
  clear hc1
  have hS : ShpS 97 H1 (H.length + 1) (.slice a1 sp.sources.length z1) (.slice a2 sp.targets.length z2) (.slice none 0 0) (.slice none 0 0) (.slice none 0 0) [] [] [] [] [] [] c1 :=
    ⟨k1, SlR.nil, SlR.nil, SlR.nil, by simp, by simp, by simp, Cin.nil, Cin.nil, Cin.nil, ca⟩
  have hlT := leftT_200 hsp [] []
  refine CallK.of ⟨_, Tryz.func106, rfl, rfl⟩ (shMake_ac hsp hs0 61 x1 (fun j hj => by rw [cb j (by omega)]; decide) hS ShOk.nil (by simp) (MkOk.nil sp) AllFit.nil (by simp) (by simp) n hn (by simp; omega)) ?_
  intro v S2 hmk
  cases hM : makeM sp 61 [] [] n with
  | stop r =>
    rw [hM] at hmk
    obtain ⟨q1, q2, sm, so, st, sc, F', rfl, qk, qc, qn, qf⟩ := hmk
    obtain ⟨asc, zsc, rfl⟩ := qc.form
    have kT : ∀ T : Heap, (S2 ++ T)[H.length + 1]? = _ := fun T => (List.getElem?_append_left (List.getElem?_eq_some_iff.1 qk).1).trans qk
    simp +contextual (dsimp := false) [kT]
    exact ⟨_, _, ⟨rfl, rfl⟩, fun j hj => (get_ext (by omega)).trans ((q2 j (by omega) (by rw [cb j (by omega)]; decide)).trans (x1 j hj)), sm, so, st, _, F', kT _, Rp.ext qc (Ext.app _ _)⟩
  | at_ i ds =>
    rw [hM] at hmk
    obtain ⟨rfl, c', M', L⟩ := hmk
    obtain ⟨sm, so, st, FM, FO, FT, hS2⟩ := L.shp
    obtain ⟨am, zm, rfl⟩ := hS2.mde.form
    obtain ⟨ao, zo, rfl⟩ := hS2.ord.form
    obtain ⟨at_, zt, rfl⟩ := hS2.stk.form
    have k2 := hS2.blk
    have kl := hS2.klt
    have kT : ∀ T : Heap, (S2 ++ T)[H.length + 1]? = _ := fun T => (List.getElem?_append_left kl).trans k2
    simp +contextual (dsimp := false) [kT]
    have hle := L.le
    have nM : ∀ j ∈ FM, j ≠ H.length + 1 := fun j hj e => by have := (hS2.cM j hj).2; rw [e, hS2.ck] at this; omega
    have nO : ∀ j ∈ FO, j ≠ H.length + 1 := fun j hj e => by have := (hS2.cO j hj).2; rw [e, hS2.ck] at this; omega
    refine ⟨_, _, ⟨rfl, rfl⟩, fun j hj => ?_, .slice am M'.length zm, .slice ao (namesD ds).length zo, _, M', FM, FO, List.getElem?_set_self (by simp; omega), Rp.fr hS2.mde fun j hj => ?_, Rp.fr hS2.ord fun j hj => ?_, L.ok⟩
    · rw [List.getElem?_set_ne (by omega), List.getElem?_append_left (by omega), L.old j (by omega) (by rw [cb j (by omega)]; decide)]
      exact x1 j hj
    · rw [List.getElem?_set_ne (Ne.symm (nM j hj)), List.getElem?_append_left (hS2.cM j hj).1]
    · rw [List.getElem?_set_ne (Ne.symm (nO j hj)), List.getElem?_append_left (hS2.cO j hj).1]
set_option maxHeartbeats 2000000 in
theorem specClean_ac {own : Bool} {x : Spc} {c : List Value} {F : List Nat} {H : Heap} (h : SpcR own H x c F) {n : List UInt8} (hn : okS n) :
    AC Tryz.prog ng 20 [.agg c.toArray, str n] H fun v S' => ∃ c' F', v = .agg c'.toArray ∧ Ext H S' ∧ ResR true S' (mkA x n).2 c' F' ∧ Fresh H.length F' := by
  have h0 := h
  obtain ⟨s1, s2, G1, G2, rfl, rfl, hc1, hc2⟩ := h
  obtain ⟨a1, z1, rfl⟩ := hc1.form
  obtain ⟨a2, z2, rfl⟩ := hc2.form
  refine AC.go [] Tryz.func20 rfl Tryz.ntmps20 rfl ⟨mixed, by kernel_rfl⟩ ?_
  simp +contextual (dsimp := false)
  refine CallK.fl ⟨_, Tryz.func57, rfl, rfl⟩ (specCheckSpace_ac (Rp.ext h0 (Ext.app _ _))) ?_
  simp +contextual (dsimp := false)
  refine ifA_dec (fun h1 => ?_) (fun h1 => ?_)
  rotate_left
  · rw [mkA, if_neg (fun hc => h1 hc.1)]
    exact ⟨[], ResR.mt9, Fresh.nil _⟩
  refine CallK.fl ⟨_, Tryz.func58, rfl, rfl⟩ (l1NameOk_ac n hn _) ?_
  simp +contextual (dsimp := false)
  refine ifA_intro (fun h3 => ?_) (fun h3 => ?_)
  rotate_left
  · rw [mkA, if_neg (fun hc => by rw [h3] at hc; cases hc.2)]
    exact ⟨[], ResR.mt9, Fresh.nil _⟩
  rw [mkA, if_pos ⟨h1, h3⟩]
  have hE := makeM_nil h1 h3
  obtain ⟨H1, hH1⟩ : ∃ H1, H1 = H ++ [(⟨.cells #[.slice a1 x.sources.length z1, .slice a2 x.targets.length z2] 44 (0, 0), true, true⟩ : Blk), ⟨.cells #[.int .i64 0, .string ⟨⟨[]⟩⟩, .slice none 0 0] 39 (0, 0), true, true⟩] := ⟨_, rfl⟩
  have l1 : H1.length = H.length + 2 := by rw [hH1]; simp
  have x1 : Ext H H1 := by rw [hH1]; exact Ext.app _ _
  have r1 : H1[H.length + 1]? = some (⟨.cells #[.int .i64 0, .string ⟨⟨[]⟩⟩, .slice none 0 0] 39 (0, 0), true, true⟩ : Blk) := by rw [hH1]; simp
  rw [← hH1]
  clear hH1
  refine CallK.of ⟨_, Tryz.func60, rfl, rfl⟩ (l2Clean_ac h1 (Rp.ext h0 x1) h3) ?_
  rintro v S2 ⟨s1, s2, k, hs, rfl, hk, hx2, hC⟩
  obtain ⟨rfl, rfl⟩ : .slice a1 x.sources.length z1 = s1 ∧ .slice a2 x.targets.length z2 = s2 := by simpa using hs
  have hl2 := hx2.le
  have r2 : S2[H.length + 1]? = _ := (hx2 _ (by omega)).trans r1
  generalize makeM x 61 [] [] n = M at hC hE
  have key : ∃ sm so st r sc b F', S2[k]? = some ⟨.cells (shpC (.slice a1 x.sources.length z1) (.slice a2 x.targets.length z2) sm so st r sc b) 97 (0, 0), true, true⟩ ∧ StrsR true S2 r.chain [sc] F' ∧ r = (mkEnd M).2 ∧ r.chain.length ≤ 60 := by
    cases M with
    | stop r =>
      obtain ⟨sm, so, st, sc, F', q1, q2⟩ := hC
      exact ⟨sm, so, st, r, sc, true, F', q1, q2, rfl, hE.2.2.1⟩
    | at_ i ds =>
      obtain ⟨sm, so, st, M, FM, FO, q1, q2, q3, q4⟩ := hC
      have hch : (resD (dAt ds i)).chain = [] := by unfold resD; split <;> rfl
      exact ⟨sm, so, st, resD (dAt ds i), .slice none 0 0, false, [], q1, by rw [hch]; exact SlR.nil, rfl, by rw [hch]; simp⟩
  obtain ⟨sm, so, st, r, sc, b, F', q1, q2, q3, q4⟩ := key
  obtain ⟨asc, zsc, rfl⟩ := q2.form
  rw [← q3]
  simp +contextual (dsimp := false) [q1, goB_of q1]
  refine CallK.of ⟨_, Tryz.func59, rfl, rfl⟩ (l2Copy_ac (own := true) (x := r) (c := [int r.code, str r.text, .slice asc r.chain.length zsc]) (F := F') ⟨_, rfl, q2⟩ (by omega)) ?_
  rintro v S3 ⟨c', F2, rfl, hx3, hr, hf⟩
  obtain ⟨_, rfl, g1⟩ := id hr
  obtain ⟨ac, zc, rfl⟩ := g1.form
  have r3 : S3[H.length + 1]? = _ := (hx3 _ (by omega)).trans r2
  have hl3 := hx3.le
  have s3 : ∀ b : Blk, (S3.set (H.length + 1) b)[H.length + 1]? = some b := fun b => List.getElem?_set_self (by omega)
  simp +contextual (dsimp := false) [r3, s3]
  refine ⟨fun j hj => ?_, F2, ⟨_, rfl, Rp.fr g1 fun j hj => ?_⟩, hf.weak (by omega)⟩
  · rw [List.getElem?_set_ne (by omega), hx3 j (by omega), hx2 j (by omega), x1 j hj]
  · have := hf.1 j hj
    rw [List.getElem?_set_ne (by omega)]
end Go.Proofs.YtephpieeibcihaaGreatDoor

/- The account of a clean build, the reference's. No condition. -/
set_option linter.unusedSimpArgs false
set_option linter.unusedVariables false
namespace Go.Am
open Go
end Go.Am
namespace Go.Proofs.YtephpieeibcihaaGreatDoor
open Go Go.Am Go.Proofs
set_option maxRecDepth 20000
variable {ng : Nat}
end Go.Proofs.YtephpieeibcihaaGreatDoor

/- Make, the reference's. No condition. -/
set_option linter.unusedSimpArgs false
set_option linter.unusedVariables false
namespace Go.Proofs.YtephpieeibcihaaGreatDoor
open Go Go.Am Go.Proofs
set_option maxRecDepth 20000
variable {ng : Nat}
end Go.Proofs.YtephpieeibcihaaGreatDoor

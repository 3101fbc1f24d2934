import Derived.Test.YtephpieeibcihaaGreatDoorShk
import Derived.Test.YtephpieeibcihaaGreatDoorMkI
import Derived.Test.YtephpieeibcihaaGreatDoorCtA
set_option linter.all false
namespace Go.Am
open Go
def ShpC (T : TypeId) (s1 s2 : Value) (k : Nat) (S' : Heap) : Mk → Prop
  | .at_ i ds => ∃ sm so st M FM FO, S'[k]? = some ⟨.cells (shpC s1 s2 sm so st (resD (dAt ds i)) (.slice none 0 0) false) T (0, 0), true, true⟩ ∧ MdesR true S' M [sm] FM ∧ StrsR true S' (namesD ds) [so] FO ∧ ShOk M ds []
  | .stop r => ∃ sm so st sc F, S'[k]? = some ⟨.cells (shpC s1 s2 sm so st r sc true) T (0, 0), true, true⟩ ∧ StrsR true S' r.chain [sc] F
end Go.Am
namespace Go.Proofs.YtephpieeibcihaaGreatDoor
open Go Go.Am Go.Proofs
set_option maxRecDepth 20000
variable {ng : Nat}
set_option maxHeartbeats 2000000 in
theorem l2Clean_ac {own : Bool} {sp : Spc} (hsp : checkSpace sp = 0) {H : Heap} {c : List Value} {FS : List Nat} (hs0 : SpcR own H sp c FS) {n : List UInt8} (hn : nameOk n = true) :
    AC Tryz.prog ng 60 [.agg c.toArray, str n] H fun v S' => ∃ s1 s2 k, c = [s1, s2] ∧ v = .pointer (some ⟨k, 0, none⟩) ∧ H.length ≤ k ∧ Ext H S' ∧ ShpC 97 s1 s2 k S' (makeM sp 61 [] [] n) := by
  obtain ⟨s1, s2, F3, F4, rfl, hF, g1, g2⟩ := id hs0
  obtain ⟨a1, z1, rfl⟩ := g1.form
  obtain ⟨a2, z2, rfl⟩ := g2.form
  refine AC.go [] Tryz.func60 rfl Tryz.ntmps60 rfl ⟨mixed, by kernel_rfl⟩ ?_
  simp +contextual (dsimp := false)
  obtain ⟨H1, hH1⟩ : ∃ H1, H1 = H ++ [(⟨.cells #[.slice a1 sp.sources.length z1, .slice a2 sp.targets.length z2] 44 (0, 0), true, true⟩ : Blk), ⟨.cells (shpC (.slice a1 sp.sources.length z1) (.slice a2 sp.targets.length z2) (.slice none 0 0) (.slice none 0 0) (.slice none 0 0) ⟨0, [], []⟩ (.slice none 0 0) false) 97 (0, 0), true, true⟩] := ⟨_, rfl⟩
  have l1 : H1.length = H.length + 2 := by rw [hH1]; simp
  have x1 : Ext H H1 := by rw [hH1]; exact Ext.app _ _
  have k1 : H1[H.length + 1]? = some (⟨.cells (shpC (.slice a1 sp.sources.length z1) (.slice a2 sp.targets.length z2) (.slice none 0 0) (.slice none 0 0) (.slice none 0 0) ⟨0, [], []⟩ (.slice none 0 0) false) 97 (0, 0), true, true⟩ : Blk) := by rw [hH1]; simp
  rw [← hH1]
  clear hH1
  obtain ⟨c1, hc1⟩ : ∃ c1 : Nat → Nat, c1 = fun j => if j = H.length + 1 then 0 else 9 := ⟨_, rfl⟩
  have ca : c1 (H.length + 1) = 0 := by rw [hc1]; exact if_pos rfl
  have cb : ∀ j, j ≠ H.length + 1 → c1 j = 9 := fun j hj => by rw [hc1]; exact if_neg hj
  clear hc1
  have hS : ShpS 97 H1 (H.length + 1) (.slice a1 sp.sources.length z1) (.slice a2 sp.targets.length z2) (.slice none 0 0) (.slice none 0 0) (.slice none 0 0) [] [] [] [] [] [] c1 :=
    ⟨k1, SlR.nil, SlR.nil, SlR.nil, by simp, by simp, by simp, Cin.nil, Cin.nil, Cin.nil, ca⟩
  have hlT := leftT_200 hsp [] []
  refine CallK.of ⟨_, Tryz.func106, rfl, rfl⟩ (shMake_ac hsp hs0 61 x1 (fun j hj => by rw [cb j (by omega)]; decide) hS ShOk.nil (by simp) (MkOk.nil sp) AllFit.nil (by simp) (by simp) n hn (by simp; omega)) ?_
  intro v S2 hmk
  cases hM : makeM sp 61 [] [] n with
  | stop r =>
    rw [hM] at hmk
    obtain ⟨q1, q2, sm, so, st, sc, F', rfl, qk, qc, qn, qf⟩ := hmk
    obtain ⟨asc, zsc, rfl⟩ := qc.form
    have kT : ∀ T : Heap, (S2 ++ T)[H.length + 1]? = _ := fun T => (List.getElem?_append_left (List.getElem?_eq_some_iff.1 qk).1).trans qk
    simp +contextual (dsimp := false) [kT]
    exact ⟨_, _, ⟨rfl, rfl⟩, fun j hj => (get_ext (by omega)).trans ((q2 j (by omega) (by rw [cb j (by omega)]; decide)).trans (x1 j hj)), sm, so, st, _, F', kT _, Rp.ext qc (Ext.app _ _)⟩
  | at_ i ds =>
    rw [hM] at hmk
    obtain ⟨rfl, c', M', L⟩ := hmk
    obtain ⟨sm, so, st, FM, FO, FT, hS2⟩ := L.shp
    obtain ⟨am, zm, rfl⟩ := hS2.mde.form
    obtain ⟨ao, zo, rfl⟩ := hS2.ord.form
    obtain ⟨at_, zt, rfl⟩ := hS2.stk.form
    have k2 := hS2.blk
    have kl := hS2.klt
    have kT : ∀ T : Heap, (S2 ++ T)[H.length + 1]? = _ := fun T => (List.getElem?_append_left kl).trans k2
    simp +contextual (dsimp := false) [kT]
    have hle := L.le
    have nM : ∀ j ∈ FM, j ≠ H.length + 1 := fun j hj e => by have := (hS2.cM j hj).2; rw [e, hS2.ck] at this; omega
    have nO : ∀ j ∈ FO, j ≠ H.length + 1 := fun j hj e => by have := (hS2.cO j hj).2; rw [e, hS2.ck] at this; omega
    refine ⟨_, _, ⟨rfl, rfl⟩, fun j hj => ?_, .slice am M'.length zm, .slice ao (namesD ds).length zo, _, M', FM, FO, List.getElem?_set_self (by simp; omega), Rp.fr hS2.mde fun j hj => ?_, Rp.fr hS2.ord fun j hj => ?_, L.ok⟩
    · rw [List.getElem?_set_ne (by omega), List.getElem?_append_left (by omega), L.old j (by omega) (by rw [cb j (by omega)]; decide)]
      exact x1 j hj
    · rw [List.getElem?_set_ne (Ne.symm (nM j hj)), List.getElem?_append_left (hS2.cM j hj).1]
    · rw [List.getElem?_set_ne (Ne.symm (nO j hj)), List.getElem?_append_left (hS2.cO j hj).1]
end Go.Proofs.YtephpieeibcihaaGreatDoor
namespace Go.Am
open Go
theorem idxI_at {ds : List Deed} (hnd : (namesD ds).Nodup) {i : Nat} {l : Lnk} (h0 : 0 ≤ l.at_) (h1 : l.at_ < i) (hi : i ≤ ds.length) (hn : (dAt ds l.at_.toNat).name = l.name) : idxI (ds.take i) l.name = l.at_ := by
  have hlt : l.at_.toNat < (ds.take i).length := by simp; omega
  have hlt2 : l.at_.toNat < ds.length := by omega
  rw [idxI_hit (i := l.at_.toNat) hlt (by rw [List.getElem_take, ← hn, dAt_lt hlt2]) (fun j hj hlt' he => ?_), Int.toNat_of_nonneg h0]
  rw [List.getElem_take, ← hn, dAt_lt hlt2] at he
  have hj2 : j < ds.length := by simp at hj; omega
  have := nodup_idx hnd (i := j) (j := l.at_.toNat) (by simpa [namesD] using hj2) (by simpa [namesD] using hlt2) (by simpa [namesD] using he)
  omega
end Go.Am
namespace Go.Proofs.YtephpieeibcihaaGreatDoor
open Go Go.Am Go.Proofs
set_option maxRecDepth 20000
variable {ng : Nat}
set_option maxHeartbeats 4000000 in
theorem l3Made_ac {own : Bool} {sp : Spc} (hsp : checkSpace sp = 0) {H : Heap} {k : Nat} {s1 s2 sm so st sc : Value} {r : Res} {b : Bool} {M : List Mde} {FM FO FS : List Nat} {ds : List Deed} {way : List (List UInt8)} (hb : H[k]? = some ⟨.cells (shpC s1 s2 sm so st r sc b) 97 (0, 0), true, true⟩)
    (hs0 : SpcR own H sp [s1, s2] FS) (hm : MdesR true H M [sm] FM) (ho : StrsR true H (namesD ds) [so] FO) (hO : ShOk M ds way) (hf : AllFit sp ds) (hnd : (namesD ds).Nodup) (hlen : ds.length ≤ 1000000) :
    AC Tryz.prog ng 81 [.pointer (some ⟨k, 0, none⟩)] H fun v S' => ∃ sd F, v = .agg #[sd] ∧ Ext H S' ∧ DeedsR true S' ds [sd] F ∧ Fresh H.length F := by
  obtain ⟨t1, t2, F3, F4, ht, hF, g1, g2⟩ := id hs0
  obtain ⟨rfl, rfl⟩ : s1 = t1 ∧ s2 = t2 := by simpa using ht
  obtain ⟨a1, z1, rfl⟩ := g1.form
  obtain ⟨a2, z2, rfl⟩ := g2.form
  obtain ⟨am, zm, rfl⟩ := hm.form
  obtain ⟨ao, zo, rfl⟩ := ho.form
  have kl := (List.getElem?_eq_some_iff.1 hb).1
  have lnd : (namesD ds).length = ds.length := by simp [namesD]
  refine AC.go [(5, .take 0 <| .take 1 <| .take 2 <| .take 4 <| .take 5 <| .take 6 <| .take 7 <| .take 9 <| .take 3 <| .take 8 <| .take 10 <| .take 11 <| .two 12 [3] (.take 13 <| .take 14 <| .one 15 [3, 8, 11, 14] <| .one 16 [] <| .done) 15 [3, 8, 11] (.one 12 [3] <| .take 13 <| .take 14 <| .one 16 [] <| .done)), (16, .take 0 <| .take 2 <| .take 6 <| .take 8 <| .take 12 <| .take 14 <| .take 1 <| .take 3 <| .take 4 <| .take 5 <| .take 7 <| .take 9 <| .take 10 <| .take 11 <| .take 13 <| .take 15 <| .take 16 <| .take 17 <| .take 18 <| .one 19 [1, 5, 7, 11, 13, 17] <| .one 20 [] <| .done)] Tryz.func81 rfl Tryz.ntmps81 rfl ⟨mixed, by kernel_rfl⟩ ?_
  simp +contextual (dsimp := false)
  refine LoopA.up (σ := Nat × Heap × Value × List Nat) [0, 2, 3, 4] (fun x => [(4, int x.1)]) (fun x => x.2.1)
    (fun x => x.1 ≤ ds.length ∧ (∀ j, j < H.length → x.2.1[j]? = H[j]?) ∧ H.length + 2 ≤ x.2.1.length ∧ x.2.1[H.length]? = some (⟨.cells #[.slice none 0 0] 58 (0, 0), true, true⟩ : Blk) ∧ x.2.1[H.length + 1]? = some (⟨.cells #[x.2.2.1] 58 (0, 0), true, true⟩ : Blk) ∧
      DeedsR true x.2.1 (ds.take x.1) [x.2.2.1] x.2.2.2 ∧ Fresh (H.length + 2) x.2.2.2)
    (fun x => ds.length - x.1) (0, _, .slice none 0 0, []) rfl ⟨by simp, fun j hj => get_ext hj, by simp, by simp, by simp, SlR.nil, Fresh.nil _⟩ ?_
  rintro ⟨i, hp, s, F⟩ ⟨hi, e0, hle, ea, er, hv, hfr⟩
  dsimp only at hi e0 hle ea er hv hfr
  have htl : (ds.take i).length = i := by simp; omega
  obtain ⟨a, z, rfl⟩ := hv.form
  rw [htl] at hv er
  have hex : Ext H hp := fun j hj => e0 j hj
  have kbp := (e0 k kl).trans hb
  have kbT : ∀ T : Heap, (hp ++ T)[k]? = _ := fun T => (List.getElem?_append_left (by omega)).trans kbp
  simp +contextual (dsimp := false) [kbp]
  refine ifA_dec (fun h3 => ?_) (fun h3 => ?_)
  · have h3' : i < ds.length := by omega
    obtain ⟨kk, hkk, hfind, hname, hdone, hcode, htext, hseen⟩ := hO.found hnd h3'
    obtain ⟨ido, oo, co, eo, fo, owo, cso, Fio, Eo⟩ := SlR.get (Rp.ext ho hex) i (by omega)
    obtain ⟨rfl, rfl, hoko⟩ := Eo.rep
    have hco0 := Eo.cell0 (by omega)
    have hno : (namesD ds)[i]'(by omega) = ds[i].name := by simp [namesD]
    simp +contextual (dsimp := false) [Eo.idx, Eo.goB, Eo.le, Eo.lt, Eo.ext, hco0, hno, kbp, kbT]
    obtain ⟨id, o, cc, e, fe, ow, cs, Fi, E⟩ := SlR.get (Rp.ext hm hex) kk hkk
    obtain ⟨hmk, ss, rfl, hsr⟩ := E.rep
    rw [hseen] at hsr
    obtain ⟨ass, zss, rfl⟩ := hsr.form
    have heT : ∀ T : Heap, (hp ++ T)[id]? = _ := fun T => (List.getElem?_append_left E.lt).trans E.blk
    have hoT : ∀ T : Heap, (hp ++ T)[ido]? = _ := fun T => (List.getElem?_append_left Eo.lt).trans Eo.blk
    repeat' first
      | with_reducible refine And.intro ?_ ?_
      | (refine CallK.fl ⟨_, Tryz.func124, rfl, rfl⟩ (shFind_ac (by first | exact kbp | exact kbT _) (by first | exact Rp.ext hm hex | exact Rp.ext hm (hex.trans (Ext.app _ _))) ds[i].name) ?_
         rw [hfind]
         simp +contextual (dsimp := false) [E.idx, E.goB, E.le, E.lt, E.ext, kbp, kbT, heT, hoT, Eo.idx, hco0, hno])
    all_goals
      rw [hname, hcode, htext, hdone]
      refine CallK.fl ⟨_, Tryz.func77, rfl, rfl⟩ (l2Target_ac (Rp.ext hs0 (hex.trans (Ext.app _ _))) ds[i].name) ?_
      have hdk : ds[i].kind = 1 ∨ ds[i].kind = 2 ∨ ds[i].kind = 3 := by
        obtain ⟨_, ⟨_, _, w⟩ | ⟨_, _, w⟩ | ⟨_, _, w, _⟩⟩ := hf i h3'
        · exact .inl (congrArg Deed.kind w)
        · exact .inr (.inl (congrArg Deed.kind w))
        · exact .inr (.inr w)
      obtain ⟨hnm, ⟨w1, w1', w2⟩ | ⟨w1, w2, w3⟩ | ⟨w1, w2, w3, w4, w5, w6, w7, w8, w9⟩⟩ := hf i h3'
      · rw [show findI (tNames sp) ds[i].name = -1 from if_neg w1']
        simp +contextual (dsimp := false) [kbT]
        refine CallK.fl ⟨_, Tryz.func76, rfl, rfl⟩ (l2Source_ac (Rp.ext hs0 (hex.trans (Ext.app _ _))) ds[i].name) ?_
        rw [show findI (sNames sp) ds[i].name = (((sNames sp).idxOf ds[i].name : Nat) : Int) from if_pos w1]
        have erT : ∀ T : Heap, (hp ++ T)[H.length + 1]? = _ := fun T => (List.getElem?_append_left (by omega)).trans er
        simp +contextual (dsimp := false) [erT]
        have hnl := nameOk_len hnm
        have htx := souT_ok hsp w1
        have hrs : resD ds[i] = ⟨ds[i].code, ds[i].text, []⟩ := by
          have hk1 : ds[i].kind = 1 := congrArg Deed.kind w2
          simp [resD, hk1]
        have htxe : ds[i].text = souT sp ds[i].name := congrArg Deed.text w2
        rw [hrs]
        refine AppK.one (R := DeedR true) (l := ds.take i) (ex := 82) (fx := (0, 0)) (ox := true) (base := H.length + 2) (x := ds[i]) (cx := [str ds[i].name, int 1, int 0, str ds[i].text, .slice none 0 0, .slice none 0 0]) (Fx := []) slt56 und56 (Rp.ext hv (Ext.app _ _)) hfr (by simp) (by
            obtain ⟨nm, tx, hd⟩ : ∃ nm tx, ds[i] = ⟨nm, 1, 0, tx, [], []⟩ := ⟨_, _, w2⟩
            rw [htxe.symm] at htx
            rw [hd] at hnl htx ⊢
            exact ⟨⟨by unfold okS; dsimp only at hnl ⊢; omega, by simp [i64], by simp [i64], by unfold okS; dsimp only at htx ⊢; omega⟩, _, _, [], [], rfl, rfl, SlR.nil, SlR.nil⟩) (Fresh.nil _) (by simp) (by simp; omega) (by rw [htl]; omega) (by decide) ?_
        intro s9 H9 F9 u1 u2 u3 u4 u5
        rw [← List.take_succ_eq_append_getElem h3'] at u1
        have htl1 : (ds.take (i + 1)).length = i + 1 := by simp; omega
        obtain ⟨a9, z9, rfl⟩ := u1.form
        rw [htl1] at u1
        rw [htl1]
        simp only [List.length_append, List.length_cons, List.length_nil, Nat.zero_add] at u3 u4 u5
        have r9 : H9[H.length + 1]? = _ := (u4 (H.length + 1) (by omega) (fun h => by have := hfr.1 _ h; omega)).trans ((List.getElem?_append_left (by omega)).trans er)
        have s9r : ∀ b : Blk, (H9.set (H.length + 1) b)[H.length + 1]? = some b := fun b => List.getElem?_set_self (by omega)
        simp +contextual (dsimp := false) [r9, s9r, wrap_succ (show i < 9223372036854775807 by omega)]
        refine LoopN.of (i + 1, _, .slice a9 (i + 1) z9, F9) rfl ⟨h3', fun j hj => ?_, by simp; omega, ?_, s9r _, ?_, u2⟩ (by dsimp only; omega)
        · rw [List.getElem?_set_ne (by omega), u4 j (by omega) (fun h => by have := hfr.1 _ h; omega), List.getElem?_append_left (by omega), e0 j hj]
        · rw [List.getElem?_set_ne (by omega), u4 _ (by omega) (fun h => by have := hfr.1 _ h; omega), List.getElem?_append_left (by omega), ea]
        · exact Rp.fr u1 fun j hj => List.getElem?_set_ne (by have := u2.1 j hj; omega)
      · rw [show findI (tNames sp) ds[i].name = -1 from if_neg w2]
        simp +contextual (dsimp := false) [kbT]
        refine CallK.fl ⟨_, Tryz.func76, rfl, rfl⟩ (l2Source_ac (Rp.ext hs0 (hex.trans (Ext.app _ _))) ds[i].name) ?_
        rw [show findI (sNames sp) ds[i].name = -1 from if_neg w1]
        have erT : ∀ T : Heap, (hp ++ T)[H.length + 1]? = _ := fun T => (List.getElem?_append_left (by omega)).trans er
        simp +contextual (dsimp := false) [erT]
        have hnl := nameOk_len hnm
        refine AppK.one (R := DeedR true) (l := ds.take i) (ex := 82) (fx := (0, 0)) (ox := true) (base := H.length + 2) (x := ds[i]) (cx := [str ds[i].name, int 2, int 0, str [], .slice none 0 0, .slice none 0 0]) (Fx := []) slt56 und56 (Rp.ext hv (Ext.app _ _)) hfr (by simp) (by
            obtain ⟨nm, hd⟩ : ∃ nm, ds[i] = ⟨nm, 2, 0, [], [], []⟩ := ⟨_, w3⟩
            rw [hd] at hnl ⊢
            exact ⟨⟨by unfold okS; dsimp only at hnl ⊢; omega, by simp [i64], by simp [i64], by simp [okS]⟩, _, _, [], [], rfl, rfl, SlR.nil, SlR.nil⟩) (Fresh.nil _) (by simp) (by simp; omega) (by rw [htl]; omega) (by decide) ?_
        intro s9 H9 F9 u1 u2 u3 u4 u5
        rw [← List.take_succ_eq_append_getElem h3'] at u1
        have htl1 : (ds.take (i + 1)).length = i + 1 := by simp; omega
        obtain ⟨a9, z9, rfl⟩ := u1.form
        rw [htl1] at u1
        rw [htl1]
        simp only [List.length_append, List.length_cons, List.length_nil, Nat.zero_add] at u3 u4 u5
        have r9 : H9[H.length + 1]? = _ := (u4 (H.length + 1) (by omega) (fun h => by have := hfr.1 _ h; omega)).trans ((List.getElem?_append_left (by omega)).trans er)
        have s9r : ∀ b : Blk, (H9.set (H.length + 1) b)[H.length + 1]? = some b := fun b => List.getElem?_set_self (by omega)
        simp +contextual (dsimp := false) [r9, s9r, wrap_succ (show i < 9223372036854775807 by omega)]
        refine LoopN.of (i + 1, _, .slice a9 (i + 1) z9, F9) rfl ⟨h3', fun j hj => ?_, by simp; omega, ?_, s9r _, ?_, u2⟩ (by dsimp only; omega)
        · rw [List.getElem?_set_ne (by omega), u4 j (by omega) (fun h => by have := hfr.1 _ h; omega), List.getElem?_append_left (by omega), e0 j hj]
        · rw [List.getElem?_set_ne (by omega), u4 _ (by omega) (fun h => by have := hfr.1 _ h; omega), List.getElem?_append_left (by omega), ea]
        · exact Rp.fr u1 fun j hj => List.getElem?_set_ne (by have := u2.1 j hj; omega)
      · rw [show findI (tNames sp) ds[i].name = (((tNames sp).idxOf ds[i].name : Nat) : Int) from if_pos w2]
        obtain ⟨hti, hti1, hti2⟩ := tgtA_at w2
        obtain ⟨idt, ott, cct, et_, fet, owt, cst, Fit, Et⟩ := SlR.get (Rp.ext g2 hex) _ hti
        obtain ⟨hkT, sa, rfl, hcd⟩ := Et.rep
        obtain ⟨act, zct, rfl⟩ := hcd.form
        have hxp : cct.extract (ott + 1) (ott + 1 + 1) = #[.slice act (sp.targets[(tNames sp).idxOf ds[i].name]).action.length zct] := Et.part 1 1 (by omega)
        have hlet := Et.le
        have htT : ∀ T : Heap, (hp ++ T)[idt]? = _ := fun T => (List.getElem?_append_left Et.lt).trans Et.blk
        simp +contextual (dsimp := false) [kbT, Et.idx, htT, hxp, show ott + 2 ≤ cct.size by omega, show ott + 1 + 1 ≤ cct.size by omega]
        have hnl := nameOk_len hnm
        have hal : (sp.targets[(tNames sp).idxOf ds[i].name]).action.length ≤ 200 := by rw [← hti1]; exact (validP_len (tgtA_ok hsp w2)).2
        have hrs : resD ds[i] = ⟨ds[i].code, ds[i].text, []⟩ := by simp [resD, w3]
        refine CallK.of ⟨_, Tryz.func125, rfl, rfl⟩ (l2Program_ac (Rp.ext hcd (Ext.app _ _)) (by omega)) ?_
        rintro v S1 ⟨sA, FA, rfl, he1, hA, hfA⟩
        rw [← hti1, ← w4] at hA
        obtain ⟨aA, zA, rfl⟩ := hA.form
        have hl1 := he1.le
        simp only [List.length_append, List.length_cons, List.length_nil] at hl1 hfA
        have m1 : S1[hp.length]? = some (⟨.cells #[str ds[i].name, int (resD ds[i]).code, str (resD ds[i]).text, .slice none 0 0, .slice ass (senL ds[i].links).length zss, .bool true] 192 (0, 0), true, true⟩ : Blk) := (he1 _ (by simp)).trans (by simp)
        have d1 : S1[hp.length + 1]? = some (⟨.cells #[str ds[i].name, int 3, int (resD ds[i]).code, str (resD ds[i]).text, .slice none 0 0, .slice none 0 0] 82 (0, 0), true, true⟩ : Blk) := (he1 _ (by simp)).trans (by simp)
        simp +contextual (dsimp := false) [d1, m1]
        obtain ⟨S2, hS2⟩ : ∃ S2, S2 = S1.set (hp.length + 1) (⟨.cells #[str ds[i].name, int 3, int (resD ds[i]).code, str (resD ds[i]).text, .slice aA ds[i].action.length zA, .slice none 0 0] 82 (0, 0), true, true⟩ : Blk) := ⟨_, rfl⟩
        have l2 : S2.length = S1.length := by rw [hS2]; simp
        have o2 : ∀ j, j < S1.length → j ≠ hp.length + 1 → S2[j]? = S1[j]? := fun j _ hj => by rw [hS2]; exact List.getElem?_set_ne (Ne.symm hj)
        have d2 : S2[hp.length + 1]? = some (⟨.cells #[str ds[i].name, int 3, int (resD ds[i]).code, str (resD ds[i]).text, .slice aA ds[i].action.length zA, .slice none 0 0] 82 (0, 0), true, true⟩ : Blk) := by rw [hS2]; exact List.getElem?_set_self (by omega)
        rw [← hS2]
        clear hS2
        have lsl : (senL ds[i].links).length = ds[i].links.length := by simp [senL]
        have o3 : ∀ j, j < hp.length → S2[j]? = hp[j]? := fun j hj => (o2 j (by omega) (by omega)).trans ((he1 j (by simp; omega)).trans (List.getElem?_append_left hj))
        have hA2 : CodeR true S2 ds[i].action [.slice aA ds[i].action.length zA] FA := Rp.fr hA fun j hj => o2 j (Rp.lt hA j hj) (by have := hfA.1 j hj; omega)
        refine LoopA.up (σ := Nat × Heap × Value × List Nat) [0, 2, 3, 4, 5, 6, 8] (fun x => [(8, int x.1)]) (fun x => x.2.1)
          (fun x => x.1 ≤ ds[i].links.length ∧ (∀ j, j < S2.length → j ≠ hp.length + 1 → x.2.1[j]? = S2[j]?) ∧ S2.length ≤ x.2.1.length ∧ x.2.1[hp.length + 1]? = some (⟨.cells #[str ds[i].name, int 3, int (resD ds[i]).code, str (resD ds[i]).text, .slice aA ds[i].action.length zA, x.2.2.1] 82 (0, 0), true, true⟩ : Blk) ∧ LnksR true x.2.1 (ds[i].links.take x.1) [x.2.2.1] x.2.2.2 ∧ Fresh S2.length x.2.2.2)
          (fun x => ds[i].links.length - x.1) (0, _, .slice none 0 0, []) rfl ⟨by simp, fun j _ _ => rfl, Nat.le_refl _, d2, SlR.nil, Fresh.nil _⟩ ?_
        rintro ⟨q, hq, sl, FL⟩ ⟨hqi, qo, ql, qd, qv, qf⟩
        dsimp only at hqi qo ql qd qv qf
        have qtl : (ds[i].links.take q).length = q := by simp; omega
        obtain ⟨al, zl, rfl⟩ := qv.form
        rw [qtl] at qv qd
        have q0 : ∀ j, j < hp.length → hq[j]? = hp[j]? := fun j hj => (qo j (by omega) (by omega)).trans (o3 j hj)
        have qm : hq[hp.length]? = _ := (qo _ (by omega) (by omega)).trans ((o2 _ (by omega) (by omega)).trans m1)
        have qmT : ∀ T : Heap, (hq ++ T)[hp.length]? = _ := fun T => (List.getElem?_append_left (by omega)).trans qm
        have qdT : ∀ T : Heap, (hq ++ T)[hp.length + 1]? = _ := fun T => (List.getElem?_append_left (by omega)).trans qd
        have qer : hq[H.length + 1]? = _ := (q0 _ (by omega)).trans er
        have qerT : ∀ T : Heap, (hq ++ T)[H.length + 1]? = _ := fun T => (List.getElem?_append_left (by omega)).trans qer
        simp +contextual (dsimp := false) [qm, qmT, qd, qdT, qer, qerT]
        refine ifA_dec (fun h7 => ?_) (fun h7 => ?_)
        · have h7' : q < ds[i].links.length := by omega
          obtain ⟨ids, os, ccs, es, fes, ows, css, Fis, Es⟩ := SlR.get (H := hq) (Rp.fr hsr fun j hj => q0 j (Rp.lt hsr j hj)) q h7
          obtain ⟨rfl, rfl, hoks⟩ := Es.rep
          have hsq : (senL ds[i].links)[q] = ⟨ds[i].links[q].name, ds[i].links[q].ask, ds[i].links[q].has⟩ := by simp [senL]
          have s0 := Es.cell0 (by omega)
          have s1' := Es.cell 1 (by omega)
          have s2' := Es.cell 2 (by omega)
          rw [hsq] at s0 s1' s2'
          simp only [Sen.c, List.getElem?_cons_zero, List.getElem?_cons_succ] at s0 s1' s2'
          have hsT : ∀ T : Heap, (hq ++ T)[ids]? = _ := fun T => (List.getElem?_append_left Es.lt).trans Es.blk
          have hles := Es.le
          simp +contextual (dsimp := false) [Es.idx, Es.goB, Es.le, Es.lt, s0, s1', s2', hsT, qm, qmT, qd, qdT, qer, qerT]
          obtain ⟨lf1, lf2, lf3⟩ := w9 _ (List.getElem_mem h7')
          have lnl := nameOk_len lf1
          have hqv := Rp.fr hv fun j hj => q0 j (Rp.lt hv j hj)
          have hlo : 0 ≤ ds[i].links[q].at_ ∧ ds[i].links[q].at_ ≤ 1000000 := by
            cases hask : ds[i].links[q].ask with
            | true => have := lf2 hask; omega
            | false => have := lf3 hask; omega
          cases hask : ds[i].links[q].ask with
          | true =>
            obtain ⟨l1', l2', l3', l4'⟩ := lf2 hask
            simp +contextual (dsimp := false)
            refine CallK.fl ⟨_, Tryz.func126, rfl, rfl⟩ (l3At_ac (Rp.ext hqv (Ext.app _ _)) ds[i].links[q].name) ?_
            rw [idxI_at hnd l2' l3' (by omega) l4']
            simp +contextual (dsimp := false) [qm, qmT, qd, qdT, qer, qerT]
            refine AppK.one (R := LnkR) (l := ds[i].links.take q) (ex := 123) (fx := (0, 0)) (ox := true) (base := S2.length) (x := ds[i].links[q]) (cx := [str ds[i].links[q].name, .bool true, .bool ds[i].links[q].has, int ds[i].links[q].at_]) (Fx := []) slt80 und80 (Rp.ext qv (Ext.app _ _)) qf (by simp) ⟨(by simp [Lnk.c, hask]), rfl, ⟨by unfold okS; omega, by unfold i64; omega⟩⟩ (Fresh.nil _) (by simp) (by simp; omega) (by rw [qtl]; omega) (by decide) ?_
            intro s8 H8 F8 v1 v2 v3 v4 v5
            rw [← List.take_succ_eq_append_getElem h7'] at v1
            have qtl1 : (ds[i].links.take (q + 1)).length = q + 1 := by simp; omega
            obtain ⟨a8, z8, rfl⟩ := v1.form
            rw [qtl1] at v1
            rw [qtl1]
            simp only [List.length_append, List.length_cons, List.length_nil, Nat.zero_add] at v3 v4 v5
            have d8 : H8[hp.length + 1]? = _ := (v4 _ (by omega) (fun h => by have := qf.1 _ h; omega)).trans ((List.getElem?_append_left (by omega)).trans qd)
            have s8d : ∀ b : Blk, (H8.set (hp.length + 1) b)[hp.length + 1]? = some b := fun b => List.getElem?_set_self (by omega)
            simp +contextual (dsimp := false) [d8, s8d, wrap_succ (show q < 9223372036854775807 by omega)]
            refine LoopN.of (q + 1, _, .slice a8 (q + 1) z8, F8) rfl ⟨h7', fun j hj hne => ?_, by simp; omega, s8d _, Rp.fr v1 fun j hj => List.getElem?_set_ne (by have := v2.1 j hj; omega), v2⟩ (by dsimp only; omega)
            rw [List.getElem?_set_ne (Ne.symm hne), v4 j (by omega) (fun h => by have := qf.1 _ h; omega), List.getElem?_append_left (by omega)]
            exact qo j hj hne
          | false =>
            obtain ⟨l1', l2'⟩ := lf3 hask
            simp +contextual (dsimp := false) [qm, qmT, qd, qdT, qer, qerT]
            refine AppK.one (R := LnkR) (l := ds[i].links.take q) (ex := 123) (fx := (0, 0)) (ox := true) (base := S2.length) (x := ds[i].links[q]) (cx := [str ds[i].links[q].name, .bool false, .bool ds[i].links[q].has, int 0]) (Fx := []) slt80 und80 (Rp.ext qv (Ext.app _ _)) qf (by simp) ⟨(by simp [Lnk.c, hask, l1']), rfl, ⟨by unfold okS; omega, by unfold i64; omega⟩⟩ (Fresh.nil _) (by simp) (by simp; omega) (by rw [qtl]; omega) (by decide) ?_
            intro s8 H8 F8 v1 v2 v3 v4 v5
            rw [← List.take_succ_eq_append_getElem h7'] at v1
            have qtl1 : (ds[i].links.take (q + 1)).length = q + 1 := by simp; omega
            obtain ⟨a8, z8, rfl⟩ := v1.form
            rw [qtl1] at v1
            rw [qtl1]
            simp only [List.length_append, List.length_cons, List.length_nil, Nat.zero_add] at v3 v4 v5
            have d8 : H8[hp.length + 1]? = _ := (v4 _ (by omega) (fun h => by have := qf.1 _ h; omega)).trans ((List.getElem?_append_left (by omega)).trans qd)
            have s8d : ∀ b : Blk, (H8.set (hp.length + 1) b)[hp.length + 1]? = some b := fun b => List.getElem?_set_self (by omega)
            simp +contextual (dsimp := false) [d8, s8d, wrap_succ (show q < 9223372036854775807 by omega)]
            refine LoopN.of (q + 1, _, .slice a8 (q + 1) z8, F8) rfl ⟨h7', fun j hj hne => ?_, by simp; omega, s8d _, Rp.fr v1 fun j hj => List.getElem?_set_ne (by have := v2.1 j hj; omega), v2⟩ (by dsimp only; omega)
            rw [List.getElem?_set_ne (Ne.symm hne), v4 j (by omega) (fun h => by have := qf.1 _ h; omega), List.getElem?_append_left (by omega)]
            exact qo j hj hne
        · obtain rfl : q = ds[i].links.length := by omega
          rw [List.take_of_length_le (Nat.le_refl _)] at qv
          have hv2 := Rp.fr hv fun j hj => q0 j (Rp.lt hv j hj)
          have hdr : DeedR true hq ds[i] [str ds[i].name, int 3, int ds[i].code, str ds[i].text, .slice aA ds[i].action.length zA, .slice al ds[i].links.length zl] (FA ++ FL) :=
            ⟨⟨by unfold okS; omega, by rw [w3]; simp [i64], by unfold i64; omega, by unfold okS; omega⟩, _, _, FA, FL, by rw [w3], rfl, Rp.fr hA2 fun j hj => qo j (by have := Rp.lt hA2 j hj; omega) (by have := hfA.1 j hj; omega), qv⟩
          have hfx : Fresh (H.length + 2) (FA ++ FL) := Fresh.app ⟨fun j hj => by have := hfA.1 j hj; omega, hfA.2⟩ (qf.weak (by omega)) fun j hj hm => by have h1 := Rp.lt hA2 j hj; have h2 := qf.1 j hm; omega
          have hfd : ∀ j ∈ FA ++ FL, j ∉ F := fun j hj hm => by
            have h1 := Rp.lt hv j hm
            rcases List.mem_append.1 hj with h | h
            · have := hfA.1 j h; omega
            · have := qf.1 j h; omega
          rw [hrs]
          refine AppK.one (R := DeedR true) (l := ds.take i) (ex := 82) (fx := (0, 0)) (ox := true) (base := H.length + 2) (x := ds[i]) (cx := [str ds[i].name, int 3, int ds[i].code, str ds[i].text, .slice aA ds[i].action.length zA, .slice al ds[i].links.length zl]) (Fx := (FA ++ FL)) slt56 und56 (Rp.ext hv2 (Ext.app _ _)) hfr (by simp) (Rp.ext hdr (Ext.app _ _)) hfx hfd (by simp; omega) (by rw [htl]; omega) (by decide) ?_
          intro s9 H9 F9 u1 u2 u3 u4 u5
          rw [← List.take_succ_eq_append_getElem h3'] at u1
          have htl1 : (ds.take (i + 1)).length = i + 1 := by simp; omega
          obtain ⟨a9, z9, rfl⟩ := u1.form
          rw [htl1] at u1
          rw [htl1]
          simp only [List.length_append, List.length_cons, List.length_nil, Nat.zero_add] at u3 u4 u5
          have r9 : H9[H.length + 1]? = _ := (u4 (H.length + 1) (by omega) (fun h => by have := hfr.1 _ h; omega)).trans ((List.getElem?_append_left (by omega)).trans qer)
          have s9r : ∀ b : Blk, (H9.set (H.length + 1) b)[H.length + 1]? = some b := fun b => List.getElem?_set_self (by omega)
          simp +contextual (dsimp := false) [r9, s9r, wrap_succ (show i < 9223372036854775807 by omega)]
          refine LoopN.of (i + 1, _, .slice a9 (i + 1) z9, F9) rfl ⟨h3', fun j hj => ?_, by simp; omega, ?_, s9r _, ?_, u2⟩ (by dsimp only; omega)
          · rw [List.getElem?_set_ne (by omega), u4 j (by omega) (fun h => by have := hfr.1 _ h; omega), List.getElem?_append_left (by omega), q0 j (by omega), e0 j hj]
          · rw [List.getElem?_set_ne (by omega), u4 _ (by omega) (fun h => by have := hfr.1 _ h; omega), List.getElem?_append_left (by omega), q0 _ (by omega), ea]
          · exact Rp.fr u1 fun j hj => List.getElem?_set_ne (by have := u2.1 j hj; omega)
  · rw [List.take_of_length_le (by omega)] at hv
    have hse : ∀ b : Blk, (hp.set H.length b)[H.length]? = some b := fun b => List.getElem?_set_self (by omega)
    simp +contextual (dsimp := false) [er, ea, hse]
    exact ⟨fun j hj => (List.getElem?_set_ne (by omega)).trans (e0 j hj), F, Rp.fr hv fun j hj => List.getElem?_set_ne (by have := hfr.1 j hj; omega), hfr.weak (by omega)⟩
end Go.Proofs.YtephpieeibcihaaGreatDoor
namespace Go.Proofs.YtephpieeibcihaaGreatDoor
open Go Go.Am Go.Proofs
set_option maxRecDepth 20000
variable {ng : Nat}
set_option maxHeartbeats 2000000 in
theorem specMake_ac {own : Bool} {x : Spc} {c : List Value} {F : List Nat} {H : Heap} (h : SpcR own H x c F) {n : List UInt8} (hn : okS n) :
    AC Tryz.prog ng 36 [.agg c.toArray, str n] H fun v S' => ∃ sd F1 c2 F2, v = .tuple #[.agg #[sd], .agg c2.toArray] ∧ Ext H S' ∧ DeedsR true S' (mkA x n).1 [sd] F1 ∧ ResR true S' (mkA x n).2 c2 F2 ∧ Fresh H.length F1 ∧ Fresh H.length F2 ∧ (∀ j ∈ F1, j ∉ F2) := by
  have h0 := h
  obtain ⟨s1, s2, G1, G2, rfl, rfl, hc1, hc2⟩ := h
  obtain ⟨a1, z1, rfl⟩ := hc1.form
  obtain ⟨a2, z2, rfl⟩ := hc2.form
  refine AC.go [(6, .take 0 <| .take 2 <| .take 3 <| .take 4 <| .take 5 <| .one 1 [5] <| .one 6 [] <| .one 7 [] <| .one 8 [] <| .done)] Tryz.func36 rfl Tryz.ntmps36 rfl ⟨mixed, by kernel_rfl⟩ ?_
  simp +contextual (dsimp := false)
  refine CallK.fl ⟨_, Tryz.func57, rfl, rfl⟩ (specCheckSpace_ac (Rp.ext h0 (Ext.app _ _))) ?_
  simp +contextual (dsimp := false)
  refine ifA_dec (fun h1 => ?_) (fun h1 => ?_)
  rotate_left
  · rw [mkA, if_neg (fun hc => h1 hc.1)]
    exact ⟨_, [], _, ⟨rfl, rfl⟩, SlR.nil, [], ResR.mt9, Fresh.nil _, Fresh.nil _, by simp⟩
  refine CallK.fl ⟨_, Tryz.func58, rfl, rfl⟩ (l1NameOk_ac n hn _) ?_
  simp +contextual (dsimp := false)
  refine ifA_intro (fun h3 => ?_) (fun h3 => ?_)
  rotate_left
  · rw [mkA, if_neg (fun hc => by rw [h3] at hc; cases hc.2)]
    exact ⟨_, [], _, ⟨rfl, rfl⟩, SlR.nil, [], ResR.mt9, Fresh.nil _, Fresh.nil _, by simp⟩
  rw [mkA, if_pos ⟨h1, h3⟩]
  have hE := makeM_nil h1 h3
  have hT := leftT_200 h1 [] []
  obtain ⟨H1, hH1⟩ : ∃ H1, H1 = H ++ [(⟨.cells #[.slice a1 x.sources.length z1, .slice a2 x.targets.length z2] 44 (0, 0), true, true⟩ : Blk), ⟨.cells #[.slice none 0 0] 58 (0, 0), true, true⟩, ⟨.cells #[.int .i64 0, .string ⟨⟨[]⟩⟩, .slice none 0 0] 39 (0, 0), true, true⟩] := ⟨_, rfl⟩
  have l1 : H1.length = H.length + 3 := by rw [hH1]; simp
  have x1 : Ext H H1 := by rw [hH1]; exact Ext.app _ _
  have b1 : H1[H.length + 1]? = some (⟨.cells #[.slice none 0 0] 58 (0, 0), true, true⟩ : Blk) := by rw [hH1]; simp
  have r1 : H1[H.length + 2]? = some (⟨.cells #[.int .i64 0, .string ⟨⟨[]⟩⟩, .slice none 0 0] 39 (0, 0), true, true⟩ : Blk) := by rw [hH1]; simp
  rw [← hH1]
  clear hH1
  refine CallK.of ⟨_, Tryz.func60, rfl, rfl⟩ (l2Clean_ac h1 (Rp.ext h0 x1) h3) ?_
  rintro v S2 ⟨s1, s2, k, hs, rfl, hk, hx2, hC⟩
  obtain ⟨rfl, rfl⟩ : .slice a1 x.sources.length z1 = s1 ∧ .slice a2 x.targets.length z2 = s2 := by simpa using hs
  have hl2 := hx2.le
  have b2 : S2[H.length + 1]? = _ := (hx2 _ (by omega)).trans b1
  have r2 : S2[H.length + 2]? = _ := (hx2 _ (by omega)).trans r1
  cases hM : makeM x 61 [] [] n with
  | stop r =>
    rw [hM] at hC hE
    obtain ⟨sm, so, st, sc, F', q1, q2⟩ := hC
    have q4 : r.chain.length ≤ 60 := hE.2.2.1
    obtain ⟨asc, zsc, rfl⟩ := q2.form
    simp +contextual (dsimp := false) [q1, goB_of q1]
    refine CallK.of ⟨_, Tryz.func59, rfl, rfl⟩ (l2Copy_ac (own := true) (x := r) (c := [int r.code, str r.text, .slice asc r.chain.length zsc]) (F := F') ⟨_, rfl, q2⟩ (by omega)) ?_
    rintro v S3 ⟨c', F2, rfl, hx3, hr, hf⟩
    obtain ⟨_, rfl, g1⟩ := id hr
    obtain ⟨ac, zc, rfl⟩ := g1.form
    have hl3 := hx3.le
    have b3 : S3[H.length + 1]? = _ := (hx3 _ (by omega)).trans b2
    have r3 : S3[H.length + 2]? = _ := (hx3 _ (by omega)).trans r2
    have s1 : ∀ b : Blk, (S3.set (H.length + 1) b)[H.length + 2]? = _ := fun b => (List.getElem?_set_ne (by omega)).trans r3
    have s2 : ∀ b : Blk, (S3.set (H.length + 1) b)[H.length + 1]? = some b := fun b => List.getElem?_set_self (by omega)
    have s3 : ∀ b b' : Blk, ((S3.set (H.length + 1) b).set (H.length + 2) b')[H.length + 1]? = some b := fun b b' => (List.getElem?_set_ne (by omega)).trans (s2 b)
    have s4 : ∀ b b' : Blk, ((S3.set (H.length + 1) b).set (H.length + 2) b')[H.length + 2]? = some b' := fun b b' => List.getElem?_set_self (by simp; omega)
    simp +contextual (dsimp := false) [b3, r3, s1, s2, s3, s4]
    refine ⟨_, [], _, ⟨rfl, rfl⟩, fun j hj => ?_, SlR.nil, F2, ⟨_, rfl, Rp.fr g1 fun j hj => ?_⟩, Fresh.nil _, hf.weak (by omega), by simp⟩
    · rw [List.getElem?_set_ne (by omega), List.getElem?_set_ne (by omega), hx3 j (by omega), hx2 j (by omega), x1 j hj]
    · have := hf.1 j hj
      rw [List.getElem?_set_ne (by omega), List.getElem?_set_ne (by omega)]
  | at_ i ds =>
    rw [hM] at hC hE
    obtain ⟨-, -, hfit, -, hnd, -, -⟩ := made h1 h3 hM
    obtain ⟨m1, m2, m3, m4, m5⟩ := hE
    obtain ⟨sm, so, st, M, FM, FO, q1, q2, q3, q4⟩ := hC
    have q1T : ∀ T : Heap, (S2 ++ T)[k]? = _ := fun T => (List.getElem?_append_left (List.getElem?_eq_some_iff.1 q1).1).trans q1
    simp +contextual (dsimp := false) [q1, goB_of q1]
    have hch : (resD (dAt ds i)).chain = [] := by unfold resD; split <;> rfl
    refine CallK.of ⟨_, Tryz.func81, rfl, rfl⟩ (l3Made_ac h1 q1 (Rp.ext (Rp.ext h0 x1) hx2) q2 q3 q4 hfit hnd (by simp only [List.length_nil] at m5; omega)) ?_
    rintro v S3 ⟨sd, F1, rfl, hx3, hd, hf1⟩
    obtain ⟨ad, zd, rfl⟩ := hd.form
    have q13 : S3[k]? = _ := (hx3 k (List.getElem?_eq_some_iff.1 q1).1).trans q1
    simp +contextual (dsimp := false) [q13, goB_of q13]
    have hrr : ResR true S3 (resD (dAt ds i)) [int (resD (dAt ds i)).code, str (resD (dAt ds i)).text, .slice none 0 0] [] := ⟨_, rfl, by rw [hch]; exact SlR.nil⟩
    have hcl : (resD (dAt ds i)).chain.length ≤ 1048576 := by rw [hch]; simp
    refine CallK.of ⟨_, Tryz.func59, rfl, rfl⟩ (l2Copy_ac hrr hcl) ?_
    rintro v S4 ⟨c', F2, rfl, hx4, hr, hf⟩
    obtain ⟨_, rfl, g1⟩ := id hr
    obtain ⟨ac, zc, rfl⟩ := g1.form
    have hl3 := hx3.le
    have hl4 := hx4.le
    have b4 : S4[H.length + 1]? = _ := (hx4 _ (by omega)).trans ((hx3 _ (by omega)).trans b2)
    have r4 : S4[H.length + 2]? = _ := (hx4 _ (by omega)).trans ((hx3 _ (by omega)).trans r2)
    have s1 : ∀ b : Blk, (S4.set (H.length + 1) b)[H.length + 2]? = _ := fun b => (List.getElem?_set_ne (by omega)).trans r4
    have s2 : ∀ b : Blk, (S4.set (H.length + 1) b)[H.length + 1]? = some b := fun b => List.getElem?_set_self (by omega)
    have s3 : ∀ b b' : Blk, ((S4.set (H.length + 1) b).set (H.length + 2) b')[H.length + 1]? = some b := fun b b' => (List.getElem?_set_ne (by omega)).trans (s2 b)
    have s4 : ∀ b b' : Blk, ((S4.set (H.length + 1) b).set (H.length + 2) b')[H.length + 2]? = some b' := fun b b' => List.getElem?_set_self (by simp; omega)
    have hd4 := Rp.ext hd hx4
    simp +contextual (dsimp := false) [b4, r4, s1, s2, s3, s4]
    refine ⟨_, F1, _, ⟨rfl, rfl⟩, fun j hj => ?_, Rp.fr hd4 fun j hj => ?_, F2, ⟨_, rfl, Rp.fr g1 fun j hj => ?_⟩, hf1.weak (by omega), hf.weak (by omega), fun j hj hm => ?_⟩
    · rw [List.getElem?_set_ne (by omega), List.getElem?_set_ne (by omega), hx4 j (by omega), hx3 j (by omega), hx2 j (by omega), x1 j hj]
    · have := hf1.1 j hj
      rw [List.getElem?_set_ne (by omega), List.getElem?_set_ne (by omega)]
    · have := hf.1 j hj
      rw [List.getElem?_set_ne (by omega), List.getElem?_set_ne (by omega)]
    · have h5 := hf.1 j hm
      have h6 := Rp.lt hd j hj
      omega
end Go.Proofs.YtephpieeibcihaaGreatDoor

import Derived.Test.YtephpieeibcihaaGreatDoorShm
import Derived.Test.YtephpieeibcihaaGreatDoorAdw
import Derived.Test.YtephpieeibcihaaGreatDoorDrp
import Derived.Test.YtephpieeibcihaaGreatDoorNxt
import Derived.Test.YtephpieeibcihaaGreatDoorSpX
import Derived.Test.YtephpieeibcihaaGreatDoorHrs
set_option linter.all false
namespace Go.Proofs.YtephpieeibcihaaGreatDoor
open Go Go.Am Go.Proofs
set_option maxRecDepth 20000
variable {ng : Nat}
theorem shFind_ac {H : Heap} {k : Nat} {s1 s2 so st : Value} {M : List Mde} {sm : Value} {FM : List Nat} {r : Res} {sc : Value} {b : Bool} (hb : H[k]? = some ⟨.cells (shpC s1 s2 sm so st r sc b) 97 (0, 0), true, true⟩) (hm : MdesR true H M [sm] FM) (n : List UInt8) :
    AC Tryz.prog ng 124 [.pointer (some ⟨k, 0, none⟩), str n] H fun v S' => v = int (findM M n) ∧ S' = H := by
  obtain ⟨am, zm, rfl⟩ := hm.form
  have hbd := hm.bound
  refine .flat (AC.go [] Tryz.func124 rfl Tryz.ntmps124 rfl ⟨mixed, by kernel_rfl⟩ ?_)
  simp +contextual (dsimp := false) [hb, goB_of hb]
  refine LoopA.upc (σ := Nat) [0, 1, 5] (fun i => [(5, int i)]) (fun i => i ≤ M.length ∧ ∀ j (hj : j < M.length), j < i → M[j].name ≠ n) (fun i => M.length - i) 0 rfl (by simp) ?_
  rintro i ⟨hi, hv⟩
  simp +contextual (dsimp := false) [hb, goB_of hb]
  refine ifA_dec (fun h3 => ?_) (fun h3 => ?_)
  · obtain ⟨id, o, c, e, f, ow, cs, Fi, E⟩ := SlR.get hm i h3
    obtain ⟨hkk, s1, rfl, hc1⟩ := E.rep
    have hle := E.le
    simp +contextual (dsimp := false) [E.idx, E.goB, E.le, E.lt, E.ext, E.cell0 (by decide), hb, goB_of hb, show o + 1 ≤ c.size by omega, wrap_succ (show i < 9223372036854775807 by omega)]
    refine ifA_dec (fun h4 => ?_) (fun h4 => ?_)
    · rw [findM_hit h3 h4 hv]
    · exact LoopN.of (i + 1) rfl ⟨h3, fun j hj hlt => by
        rcases Nat.lt_or_ge j i with h | h
        · exact hv j hj h
        · obtain rfl : j = i := by omega
          exact h4⟩ (by omega)
  · rw [findM_none fun j hj => hv j hj (by omega)]
theorem shHas_ac {own : Bool} {H : Heap} {k : Nat} {s1 s2 sm so st : Value} {r : Res} {sc : Value} {b : Bool} (hb : H[k]? = some ⟨.cells (shpC s1 s2 sm so st r sc b) 97 (0, 0), true, true⟩) {sp : Spc} {FS : List Nat} (hs : SpcR own H sp [s1, s2] FS) (n : List UInt8) :
    AC Tryz.prog ng 211 [.pointer (some ⟨k, 0, none⟩), str n] H fun v S' => v = .bool (hasN sp n) ∧ S' = H := by
  have hs0 := hs
  obtain ⟨t1, t2, F3, F4, ht, hF, g1, g2⟩ := hs
  obtain ⟨rfl, rfl⟩ : s1 = t1 ∧ s2 = t2 := by simpa using ht
  obtain ⟨a1, z1, rfl⟩ := g1.form
  obtain ⟨a2, z2, rfl⟩ := g2.form
  refine .flat (AC.go [] Tryz.func211 rfl Tryz.ntmps211 rfl ⟨mixed, by kernel_rfl⟩ ?_)
  simp +contextual (dsimp := false) [hb, goB_of hb]
  refine CallK.fl ⟨_, Tryz.func76, rfl, rfl⟩ (l2Source_ac hs0 n) ?_
  simp +contextual (dsimp := false) [findI_neg, hb, goB_of hb]
  refine ifA_dec (fun h1 => ?_) (fun h1 => ?_)
  · have : n ∈ sNames sp := Decidable.byContradiction fun hn => by
      rw [← findI_neg] at hn
      omega
    simp [hasN, this]
  · have h3 : n ∉ sNames sp := by rw [← findI_neg]; omega
    refine CallK.fl ⟨_, Tryz.func77, rfl, rfl⟩ (l2Target_ac hs0 n) ?_
    simp +contextual (dsimp := false) [hb, goB_of hb]
    by_cases h2 : n ∈ tNames sp
    · have : 0 ≤ findI (tNames sp) n := by
        have := findI_neg (tNames sp) n
        simp only [h2, not_true_eq_false, eq_iff_iff, iff_false] at this
        omega
      simp [hasN, h3, h2, this]
    · have : ¬ 0 ≤ findI (tNames sp) n := by
        rw [← findI_neg] at h2
        omega
      simp [hasN, h3, h2, this]
theorem l2Copy_ac {own : Bool} {x : Res} {c : List Value} {F : List Nat} {H : Heap} (h : ResR own H x c F) (hl : x.chain.length ≤ 1048576) : AC Tryz.prog ng 59 [.agg c.toArray] H fun v S' => ∃ c' F', v = .agg c'.toArray ∧ Ext H S' ∧ ResR true S' x c' F' ∧ Fresh H.length F' := by
  obtain ⟨s, rfl, h⟩ := h
  obtain ⟨a, z, rfl⟩ := h.form
  refine AC.go [(1, .take 0 <| .take 2 <| .take 5 <| .take 1 <| .take 3 <| .take 6 <| .one 4 [1, 3, 6] <| .one 7 [1, 3] <| .take 8 <| .one 9 [] <| .done)] Tryz.func59 rfl Tryz.ntmps59 rfl ⟨mixed, by kernel_rfl⟩ ?_
  simp +contextual (dsimp := false)
  refine AppK.many (base := H.length + 2) slt24 und24 (SlR.mt (R := strR) (e := 9) (f := (0, 0)) (by simp)) (Fresh.one (n := H.length + 2) (Nat.le_refl _)) (Rp.ext h (Ext.app _ _)) (by rw [SlR.flatF h]; exact Fresh.nil _) (by rw [SlR.flatF h]; simp) (by simp) (by simp; omega) (by decide) ?_
  intro s' H' F' q1 q2 q3 q4 q5
  obtain ⟨a', z', rfl⟩ := q1.form
  simp only [List.nil_append] at q1
  simp only [List.length_append, List.length_cons, List.length_nil, Nat.zero_add] at q3
  have e0 : H'[H.length]? = _ := (q4 H.length (by simp) (by simp)).trans (by simp; rfl)
  have e1 : H'[H.length + 1]? = _ := (q4 (H.length + 1) (by simp) (by simp)).trans (by simp; rfl)
  have hs1 : ∀ b : Blk, (H'.set (H.length + 1) b)[H.length + 1]? = some b := fun b => List.getElem?_set_self (by omega)
  simp +contextual (dsimp := false) [e0, e1, hs1]
  refine ⟨fun j hj => ?_, F', ⟨_, rfl, Rp.fr q1 fun j hj => List.getElem?_set_ne (by have := q2.1 j hj; omega)⟩, q2.weak (by omega)⟩
  rw [List.getElem?_set_ne (by omega), q4 j (by simp; omega) (by simp; omega), get_ext hj]
end Go.Proofs.YtephpieeibcihaaGreatDoor
namespace Go.Am
open Go
section
variable {T : TypeId} {H H1 H2 : Heap} {k : Nat} {s1 s2 : Value} {M0 M1 M2 : List Mde} {ds ds' : List Deed} {way : List (List UInt8)} {c0 c1 c2 : Nat → Nat}
theorem ShpL.trans (h : ShpL T H k s1 s2 M0 ds way c0 H1 c1 M1) (h' : ShpL T H1 k s1 s2 M1 ds' way c1 H2 c2 M2) : ShpL T H k s1 s2 M0 ds' way c0 H2 c2 M2 := by
  have hle := h.le
  exact ⟨Nat.le_trans h.le h'.le, fun j hj => (h'.col j (by omega)).trans (h.col j hj), fun j hj hc => (h'.old j (by omega) (by rw [h.col j hj]; exact hc)).trans (h.old j hj hc), h'.shp, h'.ok, h.nam.trans h'.nam, h'.len⟩
theorem ShpL.step (h : ShpL T H k s1 s2 M0 ds way c0 H1 c1 M1) (hl : H1.length ≤ H2.length) (hc : ∀ j, j < H1.length → c2 j = c1 j) (hf : ∀ j, j < H1.length → c1 j ≤ 3 → H2[j]? = H1[j]?) (ho : ∀ j, j < H.length → 3 < c0 j → H2[j]? = H1[j]?) :
    ShpL T H k s1 s2 M0 ds way c0 H2 c2 M1 := by
  have hle := h.le
  obtain ⟨sm, so, st, FM, FO, FT, hs⟩ := h.shp
  exact ⟨by omega, fun j hj => (hc j (by omega)).trans (h.col j hj), fun j hj h3 => (ho j hj h3).trans (h.old j hj h3), ⟨sm, so, st, FM, FO, FT, hs.up hl hc hf⟩, h.ok, h.nam, h.len⟩
end
def ShpR (T : TypeId) (H : Heap) (k : Nat) (s1 s2 : Value) (M : List Mde) (way : List (List UInt8)) (c : Nat → Nat) (v : Value) (S' : Heap) : Rn → Prop
  | .done cc t ds' ls => ∃ sv FE c' M', v = .tuple #[.agg #[int cc, str t, .slice none 0 0], sv] ∧ SensR true S' (senL ls) [sv] FE ∧ FE.Nodup ∧ Cin S'.length c' 5 FE ∧ (∀ j ∈ FE, H.length ≤ j) ∧ ShpL T H k s1 s2 M ds' way c S' c' M'
  | .stop r => H.length ≤ S'.length ∧ (∀ j, j < H.length → 3 < c j → S'[j]? = H[j]?) ∧ ∃ sv sm so st sc F, v = .tuple #[.agg #[int r.code, str r.text, sc], sv] ∧ S'[k]? = some ⟨.cells (shpC s1 s2 sm so st r sc true) T (0, 0), true, true⟩ ∧ StrsR true S' r.chain [sc] F ∧ (∀ j ∈ F, j ≠ k) ∧ Fresh H.length F
theorem ask_rep {sp : Spc} {ds : List Deed} (hf : AllFit sp ds) {i : Nat} (hi : i < ds.length) :
    (if (resD ds[i]).code = 4 ∧ hasN sp ds[i].name = false then (⟨false, 0, []⟩ : Rpl) else ⟨true, (resD ds[i]).code, (resD ds[i]).text⟩) = replyD ds[i] := by
  obtain ⟨h0, ⟨h1, h1', h2⟩ | ⟨h1, h2, h3⟩ | ⟨h1, h2, h3, h4⟩⟩ := hf i hi
  · have hh : hasN sp ds[i].name = true := by simp [hasN, h1]
    rw [if_neg (by simp [hh])]
    rw [h2]
    simp [resD, replyD]
  · have hh : hasN sp ds[i].name = false := by simp [hasN, h1, h2]
    have hc : (resD ds[i]).code = 4 := by rw [h3]; simp [resD]
    rw [if_pos ⟨hc, hh⟩, h3]
    simp [replyD]
  · have hh : hasN sp ds[i].name = true := by simp [hasN, h2]
    rw [if_neg (by simp [hh])]
    simp [resD, replyD, h3]
structure ShSt where
  o : Out
  ds : List Deed
  ls : List Lnk
  rs : List Rpl
  hp : Heap
  sr : Value
  se : Value
  FR : List Nat
  FE : List Nat
  c : Nat → Nat
  M : List Mde
structure ShLi (T TP TR : TypeId) (sp : Spc) (n : List UInt8) (way : List (List UInt8)) (mk : List Deed → List UInt8 → Mk) (R : Rn) (H : Heap) (k : Nat) (s1 s2 cv : Value) (code : List Ins) (c0 : Nat → Nat) (M0 : List Mde) (x : ShSt) : Prop where
  L : ShpL T H k s1 s2 M0 x.ds way c0 x.hp x.c x.M
  mkok : MkOk sp way x.ds
  fit : AllFit sp x.ds
  rep : RplsR true x.hp x.rs [x.sr] x.FR
  sen : SensR true x.hp (senL x.ls) [x.se] x.FE
  nR : x.FR.Nodup
  nE : x.FE.Nodup
  cR : Cin x.hp.length x.c 4 x.FR
  cE : Cin x.hp.length x.c 5 x.FE
  gR : ∀ j ∈ x.FR, H.length ≤ j
  gE : ∀ j ∈ x.FE, H.length ≤ j
  pb : x.hp[H.length]? = some ⟨.cells #[cv] TP (0, 0), true, true⟩
  rb : x.hp[H.length + 1]? = some ⟨.cells #[int 0, str [], .slice none 0 0] TR (0, 0), true, true⟩
  c6 : x.c H.length = 6 ∧ x.c (H.length + 1) = 6
  o : nextO code x.rs = x.o
  rok : ∀ r ∈ x.rs, replyOk r = true
  rl : x.rs.length = x.ls.length
  look : LookAt (x.ls.length + 1) x.o
  fin : FinOk x.o
  ng : ∀ m, x.o ≠ .go m
  len : x.ls.length ≤ 200
  eq : runM mk sp code (200 - x.ls.length) x.o x.ds x.ls = R
  bd : x.ds.length + 201 * leftT sp way x.ds + (200 - x.ls.length) ≤ 1000000
end Go.Am
namespace Go.Proofs.YtephpieeibcihaaGreatDoor
open Go Go.Am Go.Proofs
set_option maxRecDepth 20000
variable {ng : Nat}
def ShMk (ng : Nat) (sp : Spc) (H0 : Heap) (s1 s2 : Value) (f : Nat) : Prop :=
  ∀ {H : Heap} {k : Nat} {sm so st : Value} {M : List Mde} {ds : List Deed} {way : List (List UInt8)} {FM FO FT : List Nat} {c : Nat → Nat}, Ext H0 H → (∀ j, j < H0.length → 3 < c j) → ShpS 97 H k s1 s2 sm so st M ds way FM FO FT c → ShOk M ds way → M.length ≤ ds.length + way.length → MkOk sp way ds → AllFit sp ds →
    f + way.length = 61 → way.length ≤ 60 → ∀ n : List UInt8, nameOk n = true → ds.length + 201 * leftT sp way ds + 1 ≤ 1000000 →
    AC Tryz.prog ng 106 [.pointer (some ⟨k, 0, none⟩), str n] H fun v S' => ShpE 97 H k s1 s2 M way c v S' (makeM sp f way ds n)
set_option maxHeartbeats 8000000 in
theorem shRun_ac {own : Bool} {sp : Spc} (hsp : checkSpace sp = 0) {H0 : Heap} {s1 s2 : Value} {FS : List Nat} (hs0 : SpcR own H0 sp [s1, s2] FS) {f : Nat} (ih : ShMk ng sp H0 s1 s2 f) {H : Heap} {k : Nat} {sm so st : Value} {M : List Mde} {ds : List Deed} {way : List (List UInt8)} {FM FO FT : List Nat} {c : Nat → Nat}
    (hx : Ext H0 H) (hc9 : ∀ j, j < H0.length → 3 < c j) (hS : ShpS 97 H k s1 s2 sm so st M ds way FM FO FT c) (hO : ShOk M ds way) (hMl : M.length ≤ ds.length + way.length) (hk : MkOk sp way ds) (hfit : AllFit sp ds) (hfw : f + way.length = 61) (hw : way.length ≤ 60)
    {code : List Ins} (hv : validP code = true) {cv : Value} {FC : List Nat} (hcode : CodeR own H0 code [cv] FC) (hB : ds.length + 201 * leftT sp way ds + 200 ≤ 1000000) :
    AC Tryz.prog ng 165 [.pointer (some ⟨k, 0, none⟩), .agg #[cv]] H fun v S' => ShpR 97 H k s1 s2 M way c v S' (runM (fun ds n' => makeM sp f way ds n') sp code 200 (run code Am.start) ds []) := by
  obtain ⟨ac, zc, rfl⟩ := hcode.form
  have hxl := hx.le
  have kl := (List.getElem?_eq_some_iff.1 hS.blk).1
  generalize hR : runM (fun ds n' => makeM sp f way ds n') sp code 200 (run code Am.start) ds [] = R
  refine AC.go [] Tryz.func165 rfl Tryz.ntmps165 rfl ⟨mixed, by kernel_rfl⟩ ?_
  simp +contextual (dsimp := false)
  obtain ⟨c1, hc1⟩ : ∃ c1 : Nat → Nat, c1 = fun j => if j < H.length then c j else if j < H.length + 2 then 6 else if j = H.length + 2 then 4 else 5 := ⟨_, rfl⟩
  have c1a : ∀ j, j < H.length → c1 j = c j := fun j hj => by rw [hc1]; exact if_pos hj
  refine LoopA.up (σ := ShSt) [0, 3, 4, 6, 7] (fun x => [(6, x.sr), (7, x.se)]) (fun x => x.hp) (ShLi 97 79 39 sp [] way (fun ds n' => makeM sp f way ds n') R H k s1 s2 (.slice ac code.length zc) code c M)
    (fun x => 200 - x.ls.length) ⟨run code Am.start, ds, [], [], _, _, _, [H.length + 2], [H.length + 3], c1, M⟩ rfl ?_ ?_
  · refine ⟨⟨by simp, c1a, fun j hj h3 => get_ext hj, ⟨sm, so, st, FM, FO, FT, hS.up (by simp) c1a fun j hj h3 => get_ext hj⟩, hO, List.prefix_refl _, hMl⟩, hk, hfit, SlR.mt (e := 185) (f := (0, 0)) (by simp), SlR.mt (e := 195) (f := (0, 0)) (by simp), by simp, by simp, ?_, ?_, by simp, by simp, by simp, by simp, ?_, rfl, by simp, rfl, run_lookAt hv _ Am.start start_ok rfl, run_finOk hv _ Am.start start_ok rfl, fun m => run_ng _ _ Am.start m rfl start_ok.steps, by simp, by simpa using hR, by simpa using hB⟩
    · intro j hj
      simp only [List.mem_singleton] at hj
      subst hj
      exact ⟨by simp, by rw [hc1]; dsimp only; rw [if_neg (by omega), if_neg (by omega), if_pos rfl]⟩
    · intro j hj
      simp only [List.mem_singleton] at hj
      subst hj
      exact ⟨by simp, by rw [hc1]; dsimp only; rw [if_neg (by omega), if_neg (by omega), if_neg (by omega)]⟩
    · rw [hc1]
      dsimp only
      exact ⟨by rw [if_neg (by omega), if_pos (by omega)], by rw [if_neg (by omega), if_pos (by omega)]⟩
  clear hc1
  rintro ⟨o, ds', ls, rs, hq, sr, se, FR, FE, cq, Mq⟩ hxx
  obtain ⟨gL, gk, gfit, grep, gsen, gnR, gnE, gcR, gcE, ggR, ggE, gpb, grb, gc6, go, grok, grl, glook, gfin, gng, glen, geq, gbd⟩ := hxx
  dsimp only at gL gk gfit grep gsen gnR gnE gcR gcE ggR ggE gpb grb gc6 go grok grl glook gfin gng glen geq gbd
  obtain ⟨ar, zr, rfl⟩ := grep.form
  obtain ⟨ae, ze, rfl⟩ := gsen.form
  have gle := gL.le
  have gx0 : Ext H0 hq := fun j hj => (gL.old j (by omega) (hc9 j hj)).trans (hx j hj)
  have gc9 : ∀ j, j < H0.length → 3 < cq j := fun j hj => by rw [gL.col j (by omega)]; exact hc9 j hj
  obtain ⟨gsm, gso, gst, gFM, gFO, gFT, gS⟩ := gL.shp
  have gkb := gS.blk
  have nok : nextOk code rs = true := by
    simp only [nextOk, Bool.and_eq_true, decide_eq_true_eq]
    exact ⟨⟨hv, by omega⟩, List.all_eq_true.2 grok⟩
  simp +contextual (dsimp := false) [gpb, goB_of gpb]
  refine CallK.fl ⟨_, Tryz.func117, rfl, rfl⟩ (specNext_ac (Rp.ext hcode gx0) grep) ?_
  have hnx : next code rs = turnOf o := by rw [next, if_pos nok, go]
  rw [hnx]
  have rbT : ∀ T : Heap, (hq ++ T)[H.length + 1]? = _ := fun T => (List.getElem?_append_left (List.getElem?_eq_some_iff.1 grb).1).trans grb
  have kbT : ∀ T : Heap, (hq ++ T)[k]? = _ := fun T => (List.getElem?_append_left (List.getElem?_eq_some_iff.1 gkb).1).trans gkb
  cases o with
  | go m => exact absurd rfl (gng m)
  | fin cf tf nf =>
    have hRe : R = .done cf tf ds' ls := by
      rw [← geq]
      cases 200 - ls.length <;> rfl
    simp +contextual (dsimp := false) [turnOf, Trn.c, rbT]
    rw [hRe]
    have rbl := (List.getElem?_eq_some_iff.1 grb).1
    obtain ⟨He, hHe⟩ : ∃ He, He = (hq ++ [(⟨.cells #[.bool true, int cf, str tf, .bool false, str [], int nf] 182 (0, 0), true, true⟩ : Blk)]).set (H.length + 1) ⟨.cells #[int cf, str tf, .slice none 0 0] 39 (0, 0), true, true⟩ := ⟨_, rfl⟩
    have hel : He.length = hq.length + 1 := by rw [hHe]; simp
    have heo : ∀ j, j < hq.length → j ≠ H.length + 1 → He[j]? = hq[j]? := fun j hj hne => by rw [hHe, List.getElem?_set_ne (Ne.symm hne), List.getElem?_append_left hj]
    have her : He[H.length + 1]? = some (⟨.cells #[int cf, str tf, .slice none 0 0] 39 (0, 0), true, true⟩ : Blk) := by rw [hHe]; exact List.getElem?_set_self (by simp; omega)
    rw [← hHe]
    clear hHe
    have hcA : ∀ j, j < hq.length → cgrow cq hq.length 6 j = cq j := fun j hj => cgrow_lt hj
    simp +contextual (dsimp := false) [her]
    refine ⟨_, FE, cgrow cq hq.length 6, Mq, rfl, Rp.fr gsen fun j hj => heo j (gcE j hj).1 (fun h => by have := (gcE j hj).2; rw [h, gc6.2] at this; omega), gnE, gcE.keep (by omega), ggE, gL.step (by omega) hcA (fun j hj h3 => heo j hj (fun h => by rw [h, gc6.2] at h3; omega)) (fun j hj _ => heo j (by omega) (by omega))⟩
  | look a nm m =>
    have lk := glook a nm m rfl
    have hls : ls.length < 200 := by have := lk.2.2.2.1; have := lk.1.looks; omega
    obtain ⟨fu, hfu⟩ : ∃ fu, 200 - ls.length = fu + 1 := ⟨199 - ls.length, by omega⟩
    rw [hfu] at geq
    have nlk := nameOk_len lk.2.2.2.2.1
    simp +contextual (dsimp := false) [turnOf, Trn.c, rbT]
    cases a with
    | false =>
      simp +contextual (dsimp := false)
      refine CallK.fl ⟨_, Tryz.func211, rfl, rfl⟩ (shHas_ac (kbT _) (Rp.ext hs0 (gx0.trans (Ext.app _ _))) nm) ?_
      simp +contextual (dsimp := false)
      have repB := grep
      have senB := gsen
      have LB := gL
      have cRB := gcR
      have cEB := gcE
      have pB := gpb
      have rB := grb
      have c6B := gc6
      have mkB := gk
      have fitB := gfit
      have qrp : replyOk (⟨hasN sp nm, 0, []⟩ : Rpl) = true := by simp [replyOk]
      simp only [runM, Bool.false_eq_true, if_false] at geq
      refine AppK.one (R := RplR) (l := rs) (ex := 185) (fx := (0, 0)) (ox := true) (base := H.length) (x := (⟨hasN sp nm, 0, []⟩ : Rpl)) (cx := [.bool (hasN sp nm), int 0, str []]) (Fx := []) slt180 und180 (Rp.ext repB (Ext.app _ _)) ⟨ggR, gnR⟩ (by simp) ⟨rfl, rfl, rpl_ok qrp⟩ (Fresh.nil _) (by simp) (by simp; omega) (by omega) (by decide) ?_
      intro s8 H6 FR2 r1 r2 r3 r4 r5
      obtain ⟨a8, z8, rfl⟩ := r1.form
      simp only [List.length_append, List.length_cons, List.length_nil, Nat.zero_add] at r1 r3 r4 r5
      have t6 : H6[hq.length]? = some (⟨.cells #[.bool false, int 0, str [], .bool false, str nm, int m.steps] 182 (0, 0), true, true⟩ : Blk) := (r4 hq.length (by omega) (fun h => by have := (gcR _ h).1; omega)).trans (by simp)
      have h6 : ∀ j, j < hq.length → j ∉ FR → H6[j]? = hq[j]? := fun j hj h1 => (r4 j (by omega) h1).trans (List.getElem?_append_left hj)
      have t6T : ∀ T : Heap, (H6 ++ T)[hq.length]? = _ := fun T => (List.getElem?_append_left (by omega)).trans t6
      simp +contextual (dsimp := false) [t6, t6T]
      refine AppK.one (R := SenR) (l := senL ls) (ex := 195) (fx := (0, 0)) (ox := true) (base := H.length) (x := ⟨nm, false, (hasN sp nm)⟩) (cx := [str nm, .bool false, .bool (hasN sp nm)]) (Fx := []) slt190 und190 (Rp.ext (Rp.fr senB fun j hj => h6 j (cEB j hj).1 (cEB.apart cRB (by decide) j hj)) (Ext.app _ _)) ⟨ggE, gnE⟩ (by simp) ⟨rfl, rfl, (by unfold Sen.ok okS; dsimp only; omega)⟩ (Fresh.nil _) (by simp) (by simp; omega) (by simp only [senL, List.length_map]; omega) (by decide) ?_
      intro s9 H9 FE2 u1 u2 u3 u4 u5
      obtain ⟨a9, z9, rfl⟩ := u1.form
      simp only [List.length_append, List.length_cons, List.length_nil, Nat.zero_add] at u1 u3 u4 u5
      simp +contextual (dsimp := false)
      have h96 : ∀ j, j < H6.length → j ∉ FE → H9[j]? = H6[j]? := fun j hj h2 => (u4 j (by omega) h2).trans (List.getElem?_append_left hj)
      have h9 : ∀ j, j < hq.length → j ∉ FR → j ∉ FE → H9[j]? = hq[j]? := fun j hj h1 h2 => (h96 j (by omega) h2).trans (h6 j hj h1)
      obtain ⟨c9, hc9e⟩ : ∃ c9 : Nat → Nat, c9 = fun j => if j < hq.length then cq j else if j < H6.length then 4 else 5 := ⟨_, rfl⟩
      have c9a : ∀ j, j < hq.length → c9 j = cq j := fun j hj => by rw [hc9e]; exact if_pos hj
      have c9b : ∀ j, hq.length ≤ j → j < H6.length → c9 j = 4 := fun j h1 h2 => by rw [hc9e]; dsimp only; rw [if_neg (by omega), if_pos h2]
      have c9c : ∀ j, H6.length ≤ j → c9 j = 5 := fun j h1 => by rw [hc9e]; dsimp only; rw [if_neg (by omega), if_neg (by omega)]
      clear hc9e
      have hra := resume_at hv glook qrp
      have hgr := Rp.lt r1
      have hgu := Rp.lt u1
      have hHl : H.length + 1 < hq.length := (List.getElem?_eq_some_iff.1 rB).1
      refine LoopN.of ⟨resume code (.look false nm m) (⟨hasN sp nm, 0, []⟩ : Rpl), ds', ls ++ [⟨nm, false, hasN sp nm, 0⟩], rs ++ [(⟨hasN sp nm, 0, []⟩ : Rpl)], H9, .slice a8 (rs.length + 1) z8, .slice a9 ((senL ls).length + 1) z9, FR2, FE2, c9, Mq⟩ rfl ?_ (by simp; omega)
      refine ⟨LB.step (by show hq.length ≤ H9.length; omega) c9a (fun j hj h3 => h9 j hj (cRB.not (by omega)) (cEB.not (by omega))) (fun j hj _ => h9 j (by omega) (fun h => by have := ggR j h; omega) (fun h => by have := ggE j h; omega)), mkB, fitB, Rp.fr r1 fun j hj => h96 j (hgr j hj) (fun h => ?_), ?_, r2.2, u2.2, fun j hj => ⟨?_, ?_⟩, fun j hj => ⟨?_, ?_⟩, r2.1, u2.1,
        (h9 _ (by omega) (cRB.not (by rw [c6B.1]; decide)) (cEB.not (by rw [c6B.1]; decide))).trans pB, (h9 _ hHl (cRB.not (by rw [c6B.2]; decide)) (cEB.not (by rw [c6B.2]; decide))).trans rB, ⟨(c9a _ (by omega)).trans c6B.1, (c9a _ hHl).trans c6B.2⟩, ?_, fun r hr => ?_, by simp [grl], by simpa using hra.1, hra.2, resume_ng (code := code) glook (⟨hasN sp nm, 0, []⟩ : Rpl), by simp; omega, ?_, ?_⟩
      · rcases r5 j hj with h1 | h1 | h1
        · exact cEB.apart cRB (by decide) j h h1
        · cases h1
        · have := (cEB j h).1
          omega
      · dsimp only
        rw [show senL (ls ++ [⟨nm, false, hasN sp nm, 0⟩]) = senL ls ++ [⟨nm, false, (hasN sp nm)⟩] by simp [senL]]
        exact u1
      · have := hgr j hj
        dsimp only
        omega
      · rcases r5 j hj with h1 | h1 | h1
        · exact (c9a j (cRB j h1).1).trans (cRB j h1).2
        · cases h1
        · exact c9b j (by omega) (hgr j hj)
      · have := hgu j hj
        exact this
      · rcases u5 j hj with h1 | h1 | h1
        · exact (c9a j (cEB j h1).1).trans (cEB j h1).2
        · cases h1
        · exact c9c j (by omega)
      · dsimp only
        rw [nextO_app, go]
      · rcases List.mem_append.1 hr with h | h
        · exact grok r h
        · rw [List.mem_singleton.1 h]
          exact qrp
      · have : 200 - (ls ++ [(⟨nm, false, hasN sp nm, 0⟩ : Lnk)]).length = fu := by simp; omega
        dsimp only
        rw [this]
        exact geq
      · simp only [List.length_append, List.length_singleton]
        omega
    | true =>
      simp +contextual (dsimp := false)
      obtain ⟨Ha, hHa⟩ : ∃ Ha, Ha = hq ++ [(⟨.cells #[.bool false, int 0, str [], .bool true, str nm, int m.steps] 182 (0, 0), true, true⟩ : Blk)] := ⟨_, rfl⟩
      have hal : Ha.length = hq.length + 1 := by rw [hHa]; simp
      have hax : Ext hq Ha := by rw [hHa]; exact Ext.app _ _
      have hat : Ha[hq.length]? = some (⟨.cells #[.bool false, int 0, str [], .bool true, str nm, int m.steps] 182 (0, 0), true, true⟩ : Blk) := by rw [hHa]; simp
      rw [← hHa]
      clear hHa
      have hcA : ∀ j, j < hq.length → cgrow cq hq.length 6 j = cq j := fun j hj => cgrow_lt hj
      have hLA := gL.step (H2 := Ha) (c2 := cgrow cq hq.length 6) (by omega) hcA (fun j hj _ => hax j hj) (fun j hj _ => hax j (by omega))
      have hEd := makeM_ok hsp f way ds' nm hfw hw gk lk.2.2.2.2.1
      have hEf := makeM_fit hsp f way ds' nm hfw hw gk lk.2.2.2.2.1 gfit
      refine CallK.of ⟨_, Tryz.func106, rfl, rfl⟩ (ih (gx0.trans hax) (fun j hj => by rw [hcA j (by omega)]; exact gc9 j hj) (gS.up (by omega) hcA fun j hj _ => hax j hj) gL.ok gL.len gk gfit hfw hw nm lk.2.2.2.2.1 (by omega)) ?_
      intro v S5 hmk
      simp only [runM, if_true] at geq
      cases hmm : makeM sp f way ds' nm with
      | stop r =>
        rw [hmm] at hmk geq
        obtain ⟨ql, qo, sm5, so5, st5, sc5, F5, rfl, qk, qc, qn, qf⟩ := hmk
        have kl5 := (List.getElem?_eq_some_iff.1 qk).1
        have hrb5 : S5[H.length + 1]? = _ := (qo (H.length + 1) (by have := (List.getElem?_eq_some_iff.1 grb).1; omega) (by rw [hcA _ (List.getElem?_eq_some_iff.1 grb).1, gc6.2]; decide)).trans ((hax _ (List.getElem?_eq_some_iff.1 grb).1).trans grb)
        obtain ⟨asc, zsc, rfl⟩ := qc.form
        have krb : k ≠ H.length + 1 := by omega
        have hrl := (List.getElem?_eq_some_iff.1 hrb5).1
        have s5b : ∀ T : Heap, ∀ b : Blk, ((S5 ++ T).set (H.length + 1) b)[H.length + 1]? = some b := fun T b => List.getElem?_set_self (by simp; omega)
        have k5T : ∀ T : Heap, (S5 ++ T)[k]? = _ := fun T => (List.getElem?_append_left kl5).trans qk
        have rb5T : ∀ T : Heap, (S5 ++ T)[H.length + 1]? = _ := fun T => (List.getElem?_append_left hrl).trans hrb5
        simp +contextual (dsimp := false) [qk, k5T, rb5T, s5b]
        rw [← geq]
        dsimp only
        refine ⟨by simp; omega, fun j hj h3 => ?_, _, sm5, so5, st5, _, F5, rfl, (List.getElem?_set_ne (Ne.symm krb)).trans (k5T _), Rp.fr qc fun j hj => ?_, qn, qf.weak (by omega)⟩
        · have hj5 : j < S5.length := by omega
          rw [List.getElem?_set_ne (by omega), List.getElem?_append_left hj5, qo j (by omega) (by rw [hcA j (by omega), gL.col j hj]; exact h3), hax j (by omega)]
          exact gL.old j hj h3
        · have h1 := qf.1 j hj
          have rbl := (List.getElem?_eq_some_iff.1 grb).1
          rw [List.getElem?_set_ne (by omega), List.getElem?_append_left (Rp.lt qc j hj)]
      | at_ i1 ds1 =>
        rw [hmm] at hmk geq hEd hEf
        obtain ⟨m1, m2, m3, m4, m5⟩ := hEd
        have hfit1 : AllFit sp ds1 := hEf
        obtain ⟨rfl, c5, M5, L5⟩ := hmk
        obtain ⟨sm5, so5, st5, FM5, FO5, FT5, S5s⟩ := L5.shp
        have k5 := S5s.blk
        have kl5 := (List.getElem?_eq_some_iff.1 k5).1
        have l5 := L5.le
        have k5T : ∀ T : Heap, (S5 ++ T)[k]? = _ := fun T => (List.getElem?_append_left kl5).trans k5
        have t5 : S5[hq.length]? = _ := (L5.old hq.length (by omega) (by rw [cgrow_ge (Nat.le_refl _)]; decide)).trans hat
        have t5T : ∀ T : Heap, (S5 ++ T)[hq.length]? = _ := fun T => (List.getElem?_append_left (by omega)).trans t5
        rw [dAt_lt m3]
        have h5o : ∀ j, j < hq.length → 3 < cq j → S5[j]? = hq[j]? := fun j hj h3 => (L5.old j (by omega) (by rw [hcA j hj]; exact h3)).trans (hax j hj)
        have c5a : ∀ j, j < hq.length → c5 j = cq j := fun j hj => (L5.col j (by omega)).trans (hcA j hj)
        have repB : RplsR true S5 rs [.slice ar rs.length zr] FR := Rp.fr grep fun j hj => h5o j (gcR j hj).1 (by rw [(gcR j hj).2]; decide)
        have senB : SensR true S5 (senL ls) [.slice ae (senL ls).length ze] FE := Rp.fr gsen fun j hj => h5o j (gcE j hj).1 (by rw [(gcE j hj).2]; decide)
        have LB := hLA.trans L5
        have cRB : Cin S5.length c5 4 FR := gcR.up (by omega) c5a
        have cEB : Cin S5.length c5 5 FE := gcE.up (by omega) c5a
        have rbl := (List.getElem?_eq_some_iff.1 grb).1
        have pB := (h5o H.length (by omega) (by rw [gc6.1]; decide)).trans gpb
        have rB := (h5o (H.length + 1) rbl (by rw [gc6.2]; decide)).trans grb
        have c6B : c5 H.length = 6 ∧ c5 (H.length + 1) = 6 := ⟨(c5a _ (by omega)).trans gc6.1, (c5a _ rbl).trans gc6.2⟩
        have mkB := m1
        have fitB := hfit1
        have qrp : replyOk (replyD ds1[i1]) = true := (m1.fit _ (List.getElem_mem m3)).1
        have hrep := ask_rep hfit1 m3
        dsimp only at geq
        rw [dAt_lt m3] at geq m4
        rw [m4] at hrep
        simp +contextual (dsimp := false) [k5, k5T, t5, t5T]
        refine ifA_dec (fun h4 => ?_) (fun h4 => ?_)
        · refine CallK.fl ⟨_, Tryz.func211, rfl, rfl⟩ (shHas_ac (k5T _) (Rp.ext (Rp.fr (H' := S5) (Rp.ext hs0 (gx0)) fun j hj => h5o j (by have := Rp.lt hs0 j hj; omega) (gc9 j (Rp.lt hs0 j hj))) (Ext.app _ _)) nm) ?_
          cases hN : hasN sp nm with
          | true =>
            rw [if_neg (fun hc => by rw [hN] at hc; cases hc.2)] at hrep
            rw [← hrep] at geq qrp
            simp +contextual (dsimp := false)
            refine AppK.one (R := RplR) (l := rs) (ex := 185) (fx := (0, 0)) (ox := true) (base := H.length) (x := (⟨true, (resD ds1[i1]).code, (resD ds1[i1]).text⟩ : Rpl)) (cx := [.bool true, int (resD ds1[i1]).code, str (resD ds1[i1]).text]) (Fx := []) slt180 und180 (Rp.ext repB (Ext.app _ _)) ⟨ggR, gnR⟩ (by simp) ⟨rfl, rfl, rpl_ok qrp⟩ (Fresh.nil _) (by simp) (by simp; omega) (by omega) (by decide) ?_
            intro s8 H6 FR2 r1 r2 r3 r4 r5
            obtain ⟨a8, z8, rfl⟩ := r1.form
            simp only [List.length_append, List.length_cons, List.length_nil, Nat.zero_add] at r1 r3 r4 r5
            have t6 : H6[hq.length]? = some (⟨.cells #[.bool false, int 0, str [], .bool true, str nm, int m.steps] 182 (0, 0), true, true⟩ : Blk) := (r4 hq.length (by omega) (fun h => by have := (gcR _ h).1; omega)).trans (t5T _)
            have h6 : ∀ j, j < S5.length → j ∉ FR → H6[j]? = S5[j]? := fun j hj h1 => (r4 j (by omega) h1).trans (List.getElem?_append_left hj)
            have t6T : ∀ T : Heap, (H6 ++ T)[hq.length]? = _ := fun T => (List.getElem?_append_left (by omega)).trans t6
            simp +contextual (dsimp := false) [t6, t6T]
            refine AppK.one (R := SenR) (l := senL ls) (ex := 195) (fx := (0, 0)) (ox := true) (base := H.length) (x := ⟨nm, true, false⟩) (cx := [str nm, .bool true, .bool false]) (Fx := []) slt190 und190 (Rp.ext (Rp.fr senB fun j hj => h6 j (cEB j hj).1 (cEB.apart cRB (by decide) j hj)) (Ext.app _ _)) ⟨ggE, gnE⟩ (by simp) ⟨rfl, rfl, (by unfold Sen.ok okS; dsimp only; omega)⟩ (Fresh.nil _) (by simp) (by simp; omega) (by simp only [senL, List.length_map]; omega) (by decide) ?_
            intro s9 H9 FE2 u1 u2 u3 u4 u5
            obtain ⟨a9, z9, rfl⟩ := u1.form
            simp only [List.length_append, List.length_cons, List.length_nil, Nat.zero_add] at u1 u3 u4 u5
            simp +contextual (dsimp := false)
            have h96 : ∀ j, j < H6.length → j ∉ FE → H9[j]? = H6[j]? := fun j hj h2 => (u4 j (by omega) h2).trans (List.getElem?_append_left hj)
            have h9 : ∀ j, j < S5.length → j ∉ FR → j ∉ FE → H9[j]? = S5[j]? := fun j hj h1 h2 => (h96 j (by omega) h2).trans (h6 j hj h1)
            obtain ⟨c9, hc9e⟩ : ∃ c9 : Nat → Nat, c9 = fun j => if j < S5.length then c5 j else if j < H6.length then 4 else 5 := ⟨_, rfl⟩
            have c9a : ∀ j, j < S5.length → c9 j = c5 j := fun j hj => by rw [hc9e]; exact if_pos hj
            have c9b : ∀ j, S5.length ≤ j → j < H6.length → c9 j = 4 := fun j h1 h2 => by rw [hc9e]; dsimp only; rw [if_neg (by omega), if_pos h2]
            have c9c : ∀ j, H6.length ≤ j → c9 j = 5 := fun j h1 => by rw [hc9e]; dsimp only; rw [if_neg (by omega), if_neg (by omega)]
            clear hc9e
            have hra := resume_at hv glook qrp
            have hgr := Rp.lt r1
            have hgu := Rp.lt u1
            have hHl : H.length + 1 < S5.length := (List.getElem?_eq_some_iff.1 rB).1
            refine LoopN.of ⟨resume code (.look true nm m) (⟨true, (resD ds1[i1]).code, (resD ds1[i1]).text⟩ : Rpl), ds1, ls ++ [⟨nm, true, false, (i1 : Int)⟩], rs ++ [(⟨true, (resD ds1[i1]).code, (resD ds1[i1]).text⟩ : Rpl)], H9, .slice a8 (rs.length + 1) z8, .slice a9 ((senL ls).length + 1) z9, FR2, FE2, c9, M5⟩ rfl ?_ (by simp; omega)
            refine ⟨LB.step (by show S5.length ≤ H9.length; omega) c9a (fun j hj h3 => h9 j hj (cRB.not (by omega)) (cEB.not (by omega))) (fun j hj _ => h9 j (by omega) (fun h => by have := ggR j h; omega) (fun h => by have := ggE j h; omega)), mkB, fitB, Rp.fr r1 fun j hj => h96 j (hgr j hj) (fun h => ?_), ?_, r2.2, u2.2, fun j hj => ⟨?_, ?_⟩, fun j hj => ⟨?_, ?_⟩, r2.1, u2.1,
              (h9 _ (by omega) (cRB.not (by rw [c6B.1]; decide)) (cEB.not (by rw [c6B.1]; decide))).trans pB, (h9 _ hHl (cRB.not (by rw [c6B.2]; decide)) (cEB.not (by rw [c6B.2]; decide))).trans rB, ⟨(c9a _ (by omega)).trans c6B.1, (c9a _ hHl).trans c6B.2⟩, ?_, fun r hr => ?_, by simp [grl], by simpa using hra.1, hra.2, resume_ng (code := code) glook (⟨true, (resD ds1[i1]).code, (resD ds1[i1]).text⟩ : Rpl), by simp; omega, ?_, ?_⟩
            · rcases r5 j hj with h1 | h1 | h1
              · exact cEB.apart cRB (by decide) j h h1
              · cases h1
              · have := (cEB j h).1
                omega
            · dsimp only
              rw [show senL (ls ++ [⟨nm, true, false, (i1 : Int)⟩]) = senL ls ++ [⟨nm, true, false⟩] by simp [senL]]
              exact u1
            · have := hgr j hj
              dsimp only
              omega
            · rcases r5 j hj with h1 | h1 | h1
              · exact (c9a j (cRB j h1).1).trans (cRB j h1).2
              · cases h1
              · exact c9b j (by omega) (hgr j hj)
            · have := hgu j hj
              exact this
            · rcases u5 j hj with h1 | h1 | h1
              · exact (c9a j (cEB j h1).1).trans (cEB j h1).2
              · cases h1
              · exact c9c j (by omega)
            · dsimp only
              rw [nextO_app, go]
            · rcases List.mem_append.1 hr with h | h
              · exact grok r h
              · rw [List.mem_singleton.1 h]
                exact qrp
            · have : 200 - (ls ++ [(⟨nm, true, false, (i1 : Int)⟩ : Lnk)]).length = fu := by simp; omega
              dsimp only
              rw [this]
              exact geq
            · simp only [List.length_append, List.length_singleton]
              omega
          | false =>
            rw [if_pos ⟨h4, hN⟩] at hrep
            rw [← hrep] at geq qrp
            simp +contextual (dsimp := false)
            refine AppK.one (R := RplR) (l := rs) (ex := 185) (fx := (0, 0)) (ox := true) (base := H.length) (x := (⟨false, 0, []⟩ : Rpl)) (cx := [.bool false, int 0, str []]) (Fx := []) slt180 und180 (Rp.ext repB (Ext.app _ _)) ⟨ggR, gnR⟩ (by simp) ⟨rfl, rfl, rpl_ok qrp⟩ (Fresh.nil _) (by simp) (by simp; omega) (by omega) (by decide) ?_
            intro s8 H6 FR2 r1 r2 r3 r4 r5
            obtain ⟨a8, z8, rfl⟩ := r1.form
            simp only [List.length_append, List.length_cons, List.length_nil, Nat.zero_add] at r1 r3 r4 r5
            have t6 : H6[hq.length]? = some (⟨.cells #[.bool false, int 0, str [], .bool true, str nm, int m.steps] 182 (0, 0), true, true⟩ : Blk) := (r4 hq.length (by omega) (fun h => by have := (gcR _ h).1; omega)).trans (t5T _)
            have h6 : ∀ j, j < S5.length → j ∉ FR → H6[j]? = S5[j]? := fun j hj h1 => (r4 j (by omega) h1).trans (List.getElem?_append_left hj)
            have t6T : ∀ T : Heap, (H6 ++ T)[hq.length]? = _ := fun T => (List.getElem?_append_left (by omega)).trans t6
            simp +contextual (dsimp := false) [t6, t6T]
            refine AppK.one (R := SenR) (l := senL ls) (ex := 195) (fx := (0, 0)) (ox := true) (base := H.length) (x := ⟨nm, true, false⟩) (cx := [str nm, .bool true, .bool false]) (Fx := []) slt190 und190 (Rp.ext (Rp.fr senB fun j hj => h6 j (cEB j hj).1 (cEB.apart cRB (by decide) j hj)) (Ext.app _ _)) ⟨ggE, gnE⟩ (by simp) ⟨rfl, rfl, (by unfold Sen.ok okS; dsimp only; omega)⟩ (Fresh.nil _) (by simp) (by simp; omega) (by simp only [senL, List.length_map]; omega) (by decide) ?_
            intro s9 H9 FE2 u1 u2 u3 u4 u5
            obtain ⟨a9, z9, rfl⟩ := u1.form
            simp only [List.length_append, List.length_cons, List.length_nil, Nat.zero_add] at u1 u3 u4 u5
            simp +contextual (dsimp := false)
            have h96 : ∀ j, j < H6.length → j ∉ FE → H9[j]? = H6[j]? := fun j hj h2 => (u4 j (by omega) h2).trans (List.getElem?_append_left hj)
            have h9 : ∀ j, j < S5.length → j ∉ FR → j ∉ FE → H9[j]? = S5[j]? := fun j hj h1 h2 => (h96 j (by omega) h2).trans (h6 j hj h1)
            obtain ⟨c9, hc9e⟩ : ∃ c9 : Nat → Nat, c9 = fun j => if j < S5.length then c5 j else if j < H6.length then 4 else 5 := ⟨_, rfl⟩
            have c9a : ∀ j, j < S5.length → c9 j = c5 j := fun j hj => by rw [hc9e]; exact if_pos hj
            have c9b : ∀ j, S5.length ≤ j → j < H6.length → c9 j = 4 := fun j h1 h2 => by rw [hc9e]; dsimp only; rw [if_neg (by omega), if_pos h2]
            have c9c : ∀ j, H6.length ≤ j → c9 j = 5 := fun j h1 => by rw [hc9e]; dsimp only; rw [if_neg (by omega), if_neg (by omega)]
            clear hc9e
            have hra := resume_at hv glook qrp
            have hgr := Rp.lt r1
            have hgu := Rp.lt u1
            have hHl : H.length + 1 < S5.length := (List.getElem?_eq_some_iff.1 rB).1
            refine LoopN.of ⟨resume code (.look true nm m) (⟨false, 0, []⟩ : Rpl), ds1, ls ++ [⟨nm, true, false, (i1 : Int)⟩], rs ++ [(⟨false, 0, []⟩ : Rpl)], H9, .slice a8 (rs.length + 1) z8, .slice a9 ((senL ls).length + 1) z9, FR2, FE2, c9, M5⟩ rfl ?_ (by simp; omega)
            refine ⟨LB.step (by show S5.length ≤ H9.length; omega) c9a (fun j hj h3 => h9 j hj (cRB.not (by omega)) (cEB.not (by omega))) (fun j hj _ => h9 j (by omega) (fun h => by have := ggR j h; omega) (fun h => by have := ggE j h; omega)), mkB, fitB, Rp.fr r1 fun j hj => h96 j (hgr j hj) (fun h => ?_), ?_, r2.2, u2.2, fun j hj => ⟨?_, ?_⟩, fun j hj => ⟨?_, ?_⟩, r2.1, u2.1,
              (h9 _ (by omega) (cRB.not (by rw [c6B.1]; decide)) (cEB.not (by rw [c6B.1]; decide))).trans pB, (h9 _ hHl (cRB.not (by rw [c6B.2]; decide)) (cEB.not (by rw [c6B.2]; decide))).trans rB, ⟨(c9a _ (by omega)).trans c6B.1, (c9a _ hHl).trans c6B.2⟩, ?_, fun r hr => ?_, by simp [grl], by simpa using hra.1, hra.2, resume_ng (code := code) glook (⟨false, 0, []⟩ : Rpl), by simp; omega, ?_, ?_⟩
            · rcases r5 j hj with h1 | h1 | h1
              · exact cEB.apart cRB (by decide) j h h1
              · cases h1
              · have := (cEB j h).1
                omega
            · dsimp only
              rw [show senL (ls ++ [⟨nm, true, false, (i1 : Int)⟩]) = senL ls ++ [⟨nm, true, false⟩] by simp [senL]]
              exact u1
            · have := hgr j hj
              dsimp only
              omega
            · rcases r5 j hj with h1 | h1 | h1
              · exact (c9a j (cRB j h1).1).trans (cRB j h1).2
              · cases h1
              · exact c9b j (by omega) (hgr j hj)
            · have := hgu j hj
              exact this
            · rcases u5 j hj with h1 | h1 | h1
              · exact (c9a j (cEB j h1).1).trans (cEB j h1).2
              · cases h1
              · exact c9c j (by omega)
            · dsimp only
              rw [nextO_app, go]
            · rcases List.mem_append.1 hr with h | h
              · exact grok r h
              · rw [List.mem_singleton.1 h]
                exact qrp
            · have : 200 - (ls ++ [(⟨nm, true, false, (i1 : Int)⟩ : Lnk)]).length = fu := by simp; omega
              dsimp only
              rw [this]
              exact geq
            · simp only [List.length_append, List.length_singleton]
              omega
        · rw [if_neg (fun hc => h4 hc.1)] at hrep
          rw [← hrep] at geq qrp
          refine AppK.one (R := RplR) (l := rs) (ex := 185) (fx := (0, 0)) (ox := true) (base := H.length) (x := (⟨true, (resD ds1[i1]).code, (resD ds1[i1]).text⟩ : Rpl)) (cx := [.bool true, int (resD ds1[i1]).code, str (resD ds1[i1]).text]) (Fx := []) slt180 und180 (Rp.ext repB (Ext.app _ _)) ⟨ggR, gnR⟩ (by simp) ⟨rfl, rfl, rpl_ok qrp⟩ (Fresh.nil _) (by simp) (by simp; omega) (by omega) (by decide) ?_
          intro s8 H6 FR2 r1 r2 r3 r4 r5
          obtain ⟨a8, z8, rfl⟩ := r1.form
          simp only [List.length_append, List.length_cons, List.length_nil, Nat.zero_add] at r1 r3 r4 r5
          have t6 : H6[hq.length]? = some (⟨.cells #[.bool false, int 0, str [], .bool true, str nm, int m.steps] 182 (0, 0), true, true⟩ : Blk) := (r4 hq.length (by omega) (fun h => by have := (gcR _ h).1; omega)).trans (t5T _)
          have h6 : ∀ j, j < S5.length → j ∉ FR → H6[j]? = S5[j]? := fun j hj h1 => (r4 j (by omega) h1).trans (List.getElem?_append_left hj)
          have t6T : ∀ T : Heap, (H6 ++ T)[hq.length]? = _ := fun T => (List.getElem?_append_left (by omega)).trans t6
          simp +contextual (dsimp := false) [t6, t6T]
          refine AppK.one (R := SenR) (l := senL ls) (ex := 195) (fx := (0, 0)) (ox := true) (base := H.length) (x := ⟨nm, true, false⟩) (cx := [str nm, .bool true, .bool false]) (Fx := []) slt190 und190 (Rp.ext (Rp.fr senB fun j hj => h6 j (cEB j hj).1 (cEB.apart cRB (by decide) j hj)) (Ext.app _ _)) ⟨ggE, gnE⟩ (by simp) ⟨rfl, rfl, (by unfold Sen.ok okS; dsimp only; omega)⟩ (Fresh.nil _) (by simp) (by simp; omega) (by simp only [senL, List.length_map]; omega) (by decide) ?_
          intro s9 H9 FE2 u1 u2 u3 u4 u5
          obtain ⟨a9, z9, rfl⟩ := u1.form
          simp only [List.length_append, List.length_cons, List.length_nil, Nat.zero_add] at u1 u3 u4 u5
          simp +contextual (dsimp := false)
          have h96 : ∀ j, j < H6.length → j ∉ FE → H9[j]? = H6[j]? := fun j hj h2 => (u4 j (by omega) h2).trans (List.getElem?_append_left hj)
          have h9 : ∀ j, j < S5.length → j ∉ FR → j ∉ FE → H9[j]? = S5[j]? := fun j hj h1 h2 => (h96 j (by omega) h2).trans (h6 j hj h1)
          obtain ⟨c9, hc9e⟩ : ∃ c9 : Nat → Nat, c9 = fun j => if j < S5.length then c5 j else if j < H6.length then 4 else 5 := ⟨_, rfl⟩
          have c9a : ∀ j, j < S5.length → c9 j = c5 j := fun j hj => by rw [hc9e]; exact if_pos hj
          have c9b : ∀ j, S5.length ≤ j → j < H6.length → c9 j = 4 := fun j h1 h2 => by rw [hc9e]; dsimp only; rw [if_neg (by omega), if_pos h2]
          have c9c : ∀ j, H6.length ≤ j → c9 j = 5 := fun j h1 => by rw [hc9e]; dsimp only; rw [if_neg (by omega), if_neg (by omega)]
          clear hc9e
          have hra := resume_at hv glook qrp
          have hgr := Rp.lt r1
          have hgu := Rp.lt u1
          have hHl : H.length + 1 < S5.length := (List.getElem?_eq_some_iff.1 rB).1
          refine LoopN.of ⟨resume code (.look true nm m) (⟨true, (resD ds1[i1]).code, (resD ds1[i1]).text⟩ : Rpl), ds1, ls ++ [⟨nm, true, false, (i1 : Int)⟩], rs ++ [(⟨true, (resD ds1[i1]).code, (resD ds1[i1]).text⟩ : Rpl)], H9, .slice a8 (rs.length + 1) z8, .slice a9 ((senL ls).length + 1) z9, FR2, FE2, c9, M5⟩ rfl ?_ (by simp; omega)
          refine ⟨LB.step (by show S5.length ≤ H9.length; omega) c9a (fun j hj h3 => h9 j hj (cRB.not (by omega)) (cEB.not (by omega))) (fun j hj _ => h9 j (by omega) (fun h => by have := ggR j h; omega) (fun h => by have := ggE j h; omega)), mkB, fitB, Rp.fr r1 fun j hj => h96 j (hgr j hj) (fun h => ?_), ?_, r2.2, u2.2, fun j hj => ⟨?_, ?_⟩, fun j hj => ⟨?_, ?_⟩, r2.1, u2.1,
            (h9 _ (by omega) (cRB.not (by rw [c6B.1]; decide)) (cEB.not (by rw [c6B.1]; decide))).trans pB, (h9 _ hHl (cRB.not (by rw [c6B.2]; decide)) (cEB.not (by rw [c6B.2]; decide))).trans rB, ⟨(c9a _ (by omega)).trans c6B.1, (c9a _ hHl).trans c6B.2⟩, ?_, fun r hr => ?_, by simp [grl], by simpa using hra.1, hra.2, resume_ng (code := code) glook (⟨true, (resD ds1[i1]).code, (resD ds1[i1]).text⟩ : Rpl), by simp; omega, ?_, ?_⟩
          · rcases r5 j hj with h1 | h1 | h1
            · exact cEB.apart cRB (by decide) j h h1
            · cases h1
            · have := (cEB j h).1
              omega
          · dsimp only
            rw [show senL (ls ++ [⟨nm, true, false, (i1 : Int)⟩]) = senL ls ++ [⟨nm, true, false⟩] by simp [senL]]
            exact u1
          · have := hgr j hj
            dsimp only
            omega
          · rcases r5 j hj with h1 | h1 | h1
            · exact (c9a j (cRB j h1).1).trans (cRB j h1).2
            · cases h1
            · exact c9b j (by omega) (hgr j hj)
          · have := hgu j hj
            exact this
          · rcases u5 j hj with h1 | h1 | h1
            · exact (c9a j (cEB j h1).1).trans (cEB j h1).2
            · cases h1
            · exact c9c j (by omega)
          · dsimp only
            rw [nextO_app, go]
          · rcases List.mem_append.1 hr with h | h
            · exact grok r h
            · rw [List.mem_singleton.1 h]
              exact qrp
          · have : 200 - (ls ++ [(⟨nm, true, false, (i1 : Int)⟩ : Lnk)]).length = fu := by simp; omega
            dsimp only
            rw [this]
            exact geq
          · simp only [List.length_append, List.length_singleton]
            omega
end Go.Proofs.YtephpieeibcihaaGreatDoor
namespace Go.Proofs.YtephpieeibcihaaGreatDoor
open Go Go.Am Go.Proofs
set_option maxRecDepth 20000
variable {ng : Nat}
set_option maxHeartbeats 8000000 in
theorem shMake_ac {own : Bool} {sp : Spc} (hsp : checkSpace sp = 0) {H0 : Heap} {s1 s2 : Value} {FS : List Nat} (hs0 : SpcR own H0 sp [s1, s2] FS) : ∀ f, ShMk ng sp H0 s1 s2 f := by
  obtain ⟨t1, t2, F3, F4, ht, hF, g1, g2⟩ := id hs0
  obtain ⟨rfl, rfl⟩ : s1 = t1 ∧ s2 = t2 := by simpa using ht
  obtain ⟨a1, z1, rfl⟩ := g1.form
  obtain ⟨a2, z2, rfl⟩ := g2.form
  obtain ⟨q1, q2, q3, q4, q5, q6⟩ := checkSpace_ok hsp
  intro f
  induction f with
  | zero => intro H k sm so st M ds way FM FO FT c hx hc9 hS hO hMl hk hfit hf hw; omega
  | succ f ih =>
    intro H k sm so st M ds way FM FO FT c hx hc9 hS hO hMl hk hfit hf hw n hn hB
    have hnl := nameOk_len hn
    generalize hM : makeM sp (f + 1) way ds n = R
    rw [makeM] at hM
    have kl := hS.klt
    have hxl := hx.le
    obtain ⟨am, zm, rfl⟩ := hS.mde.form
    obtain ⟨ao, zo, rfl⟩ := hS.ord.form
    obtain ⟨at_, zt, rfl⟩ := hS.stk.form
    have hb := hS.blk
    have kbT : ∀ T : Heap, (H ++ T)[k]? = _ := fun T => (List.getElem?_append_left kl).trans hb
    refine AC.go [] Tryz.func106 rfl Tryz.ntmps106 rfl ⟨mixed, by kernel_rfl⟩ ?_
    simp +contextual (dsimp := false)
    refine CallK.fl ⟨_, Tryz.func124, rfl, rfl⟩ (shFind_ac (kbT _) (Rp.ext hS.mde (Ext.app _ _)) n) ?_
    by_cases c1 : n ∈ namesD ds
    · rw [if_pos c1] at hM
      subst hM
      obtain ⟨hil, hin⟩ := idxOf_map (fun d : Deed => d.name) (l := ds) c1
      obtain ⟨kk, hkk, hfind, hname, hdone, hcode, htext, hseen⟩ := hO.found hk.nd hil
      rw [hin] at hfind hname
      obtain ⟨id, o, cc, e, fe, ow, cs, Fi, E⟩ := SlR.get hS.mde kk hkk
      obtain ⟨hmk, ss, rfl, hsr⟩ := E.rep
      obtain ⟨ass, zss, rfl⟩ := hsr.form
      have hle := E.le
      have e5 := E.cell 5 (by omega)
      have e1 := E.part 1 3 (by omega)
      have hbe : ∀ T : Heap, (H ++ T)[id]? = _ := fun T => (List.getElem?_append_left E.lt).trans E.blk
      rw [hfind]
      simp +contextual (dsimp := false) [kbT, E.idx, hbe, E.le, e5, e1, hdone, show o + 6 ≤ cc.size by omega, show o + 1 + 3 ≤ cc.size by omega]
      have hdi : dAt ds (List.idxOf n (namesD ds)) = ds[List.idxOf n (List.map (fun d : Deed => d.name) ds)] := dAt_lt hil
      refine ⟨by rw [hdi, hcode, htext], cgrow c H.length 6, M, by simp, fun j hj => cgrow_lt hj, fun j hj h3 => ?_, ⟨_, _, _, FM, FO, FT, hS.up (by simp) (fun j hj => cgrow_lt hj) fun j hj h3 => ?_⟩, hO, List.prefix_refl _, hMl⟩
      all_goals exact get_ext hj
    rw [if_neg c1] at hM
    by_cases c0 : n ∈ namesM M
    · obtain ⟨hkk, hname, hdone, hway⟩ := hO.open_ c1 c0
      have hfind : findM M n = (((namesM M).idxOf n : Nat) : Int) := if_pos c0
      rw [hfind]
      obtain ⟨id, o, cc, e, fe, ow, cs, Fi, E⟩ := SlR.get hS.mde _ hkk
      obtain ⟨hmk, ss, rfl, hsr⟩ := E.rep
      obtain ⟨ass, zss, rfl⟩ := hsr.form
      have e5 := E.cell 5 (by omega)
      have hle := E.le
      have hbe : ∀ T : Heap, (H ++ T)[id]? = _ := fun T => (List.getElem?_append_left E.lt).trans E.blk
      simp +contextual (dsimp := false) [kbT, E.idx, hbe, E.le, e5, hdone, show o + 6 ≤ cc.size by omega]
      rw [show decide (((List.idxOf n (namesM M) : Nat) : Int) < 0) = false from decide_eq_false (by omega)]
      simp +contextual (dsimp := false)
      obtain ⟨Hb, hHb⟩ : ∃ Hb, Hb = H ++ [(⟨.cells #[int 0, str [], .slice none 0 0] 39 (0, 0), true, true⟩ : Blk)] := ⟨_, rfl⟩
      have lb : H.length + 1 ≤ Hb.length := by rw [hHb]; simp
      have xHb : Ext H Hb := by rw [hHb]; exact Ext.app _ _
      have rb : Hb[H.length]? = some (⟨.cells #[int 0, str [], .slice none 0 0] 39 (0, 0), true, true⟩ : Blk) := by rw [hHb]; simp
      rw [← hHb]
      clear hHb
      obtain ⟨cb, hcb⟩ : ∃ cb, cb = cgrow c H.length 6 := ⟨_, rfl⟩
      have cba : ∀ j, j < H.length → cb j = c j := fun j hj => by rw [hcb]; exact cgrow_lt hj
      have cbr : cb H.length = 6 := by rw [hcb]; exact cgrow_ge (Nat.le_refl _)
      clear hcb
      have hSb := hS.up (by omega) cba fun j hj _ => xHb j hj
      have ob : ∀ j, j < H.length → 3 < c j → Hb[j]? = H[j]? := fun j hj _ => xHb j hj
      have hOb := hO
      have nmb : namesM M <+: namesM M := List.prefix_refl _
      have hMlb : M.length ≤ ds.length + way.length + 1 := by omega
      have kb := hSb.blk
      have klb := hSb.klt
      have kbT' : ∀ T : Heap, (Hb ++ T)[k]? = _ := fun T => (List.getElem?_append_left klb).trans kb
      have xb : Ext H0 Hb := fun j hj => (ob j (by omega) (hc9 j hj)).trans (hx j hj)
      have cb9 : ∀ j, j < H0.length → 3 < cb j := fun j hj => by rw [cba j (by omega)]; exact hc9 j hj
      have opb := (hOb.opn _ (List.getElem_mem hkk) hdone).1
      obtain ⟨idb, obb, ccb, eb, feb, owb, csb, Fib, Eb⟩ := SlR.get hSb.mde ((namesM M).idxOf n) hkk
      obtain ⟨hmkb, ssb, rfl, hsrb⟩ := Eb.rep
      rw [opb] at hsrb
      obtain ⟨assb, zssb, rfl⟩ := hsrb.form
      simp only [List.length_nil] at hsrb
      obtain rfl : owb = true := Eb.own' rfl
      have idl := Eb.lt
      have obl := Eb.le
      have idk : idb ≠ k := fun e => by have := (hSb.cM _ Eb.mem).2; rw [e, hSb.ck] at this; omega
      have idr : idb ≠ H.length := fun e => by have := (hSb.cM _ Eb.mem).2; rw [e, cbr] at this; omega
      refine CallK.fl ⟨_, Tryz.func76, rfl, rfl⟩ (l2Source_ac (Rp.ext hs0 xb) n) ?_
      simp +contextual (dsimp := false) [kb]
      refine CallK.fl ⟨_, Tryz.func77, rfl, rfl⟩ (l2Target_ac (Rp.ext hs0 xb) n) ?_
      by_cases c3 : n ∈ tNames sp
      case neg => exact absurd (hk.wt n hway).1 c3
      have c2 : n ∉ sNames sp := fun hm => by
        obtain ⟨sx, hs1, hs2⟩ := List.mem_map.1 hm
        exact q6.1 sx hs1 (by rw [hs2]; exact c3)
      rw [if_neg c2, if_neg (fun h => h c3)] at hM
      obtain ⟨hi, hi1, hi2⟩ := tgtA_at c3
      rw [show findI (tNames sp) n = (((tNames sp).idxOf n : Nat) : Int) from if_pos c3]
      simp +contextual (dsimp := false) [show ¬ (((tNames sp).idxOf n : Nat) : Int) < 0 by omega]
      refine LoopA.upc (σ := Nat) [0, 1, 4, 5, 7, 9] (fun i => [(9, int i)]) (fun i => i ≤ way.length ∧ ∀ j (hj : j < way.length), j < i → way[j] ≠ n) (fun i => way.length - i) 0 rfl (by simp) ?_
      rintro i ⟨hi', hv⟩
      have hk2 : ∀ b : Blk, (Hb.set k b)[k]? = some b := fun b => List.getElem?_set_self klb
      simp +contextual (dsimp := false) [kb]
      refine ifA_dec (fun h3 => ?_) (fun h3 => ?_)
      · obtain ⟨ide, oe, cce, ee, fee, owe, cse, Fie, Ee⟩ := SlR.get hSb.stk i h3
        obtain ⟨rfl, rfl, hoke⟩ := Ee.rep
        have hcle := Ee.cell0 (by omega)
        simp +contextual (dsimp := false) [Ee.idx, Ee.goB, Ee.le, Ee.lt, Ee.ext, hcle, kb, hk2, wrap_succ (show i < 9223372036854775807 by omega)]
        refine ifA_dec (fun h4 => ?_) (fun h4 => ?_)
        · have hwm : n ∈ way := by rw [← h4]; exact List.getElem_mem h3
          have hidx : way.idxOf n = i := by
            have e1 := List.getElem_idxOf (List.idxOf_lt_length_iff.2 hwm)
            have e2 : ¬ way.idxOf n < i := fun hlt => hv _ (List.idxOf_lt_length_iff.2 hwm) hlt e1
            exact (List.getElem_inj hk.wnd).1 (e1.trans h4.symm)
          rw [if_pos hwm, hidx] at hM
          subst hM
          obtain ⟨slc, Flc, hcl⟩ := hSb.stk.weak.cut (P := Tryz.prog) (et := 9) i way.length (by omega) (Nat.le_refl _) siz9
          obtain ⟨hcl, hclF, -, -, -, hsr, -⟩ := hcl (fun h => by cases h)
          have hsr := hsr rfl
          rw [List.take_length] at hcl
          obtain ⟨alc, zlc, rfl⟩ := hcl.form
          rw [List.length_drop] at hcl hsr
          have hk3 : ∀ (b : Blk) (T : Heap), (Hb.set k b ++ T)[k]? = some b := fun b T => (List.getElem?_append_left (by simp; omega)).trans (hk2 b)
          simp +contextual (dsimp := false) [hk3, hsr]
          have nlk : ∀ j ∈ Flc, j ≠ k := fun j hj e => by
            have := (hSb.cT j (hclF j hj)).2
            rw [e, hSb.ck] at this
            omega
          refine AppK.many (base := Hb.length) slt24 und24 (SlR.mt (R := strR) (e := 9) (f := (0, 0)) (by simp)) (Fresh.one (n := Hb.length) (Nat.le_refl _)) (Rp.ext (Rp.fr (H' := Hb.set k _) hcl fun j hj => List.getElem?_set_ne (Ne.symm (nlk j hj))) (Ext.app _ _)) (by rw [SlR.flatF hcl]; exact Fresh.nil _) (by rw [SlR.flatF hcl]; simp) (by simp) (by simp; omega) (by decide) ?_
          intro s9 H9 FC9 u1 u2 u3 u4 u5
          obtain ⟨a9, z9, rfl⟩ := u1.form
          simp only [List.nil_append, List.length_append, List.length_cons, List.length_nil, Nat.zero_add, List.length_set, List.mem_singleton, List.length_drop] at u1 u3 u4
          have k9 : H9[k]? = _ := (u4 k (by omega) (by omega)).trans (hk3 _ _)
          have r9 : H9[H.length]? = _ := (u4 H.length (by omega) (by omega)).trans ((List.getElem?_append_left (by simp; omega)).trans ((List.getElem?_set_ne (by omega)).trans rb))
          have kr : k ≠ H.length := by omega
          have s9k : ∀ b : Blk, (H9.set k b)[k]? = some b := fun b => List.getElem?_set_self (by omega)
          have s9r : ∀ b : Blk, (H9.set k b)[H.length]? = _ := fun b => (List.getElem?_set_ne kr).trans r9
          have s9f : ∀ b b' : Blk, ((H9.set k b).set H.length b')[H.length]? = some b' := fun b b' => List.getElem?_set_self (by simp; omega)
          have s9g : ∀ b b' : Blk, ((H9.set k b).set H.length b')[k]? = some b := fun b b' => (List.getElem?_set_ne (Ne.symm kr)).trans (s9k b)
          simp +contextual (dsimp := false) [k9, s9k, s9r, s9f, s9g]
          refine ⟨by simp; omega, fun j hj h3' => ?_, _, _, _, _, FC9, rfl, s9g _ _, Rp.fr u1 fun j hj => ?_, fun j hj => ?_, u2.weak (by omega)⟩
          · have jk : j ≠ k := fun e => by rw [e, hS.ck] at h3'; omega
            rw [List.getElem?_set_ne (by omega), List.getElem?_set_ne (Ne.symm jk), u4 j (by omega) (by omega), List.getElem?_append_left (by simp; omega), List.getElem?_set_ne (Ne.symm jk)]
            exact ob j hj h3'
          · have := u2.1 j hj
            rw [List.getElem?_set_ne (by omega), List.getElem?_set_ne (by omega)]
          · have := u2.1 j hj
            omega
        · exact LoopN.of (i + 1) rfl ⟨h3, fun j hj hlt => by
            rcases Nat.lt_or_ge j i with h | h
            · exact hv j hj h
            · obtain rfl : j = i := by omega
              exact h4⟩ (by omega)
      · obtain ⟨j, hj, he⟩ := List.mem_iff_getElem.1 hway
        exact absurd he (hv j hj (by omega))
    · have hfind : findM M n = -1 := if_neg c0
      rw [hfind]
      simp +contextual (dsimp := false) [kbT]
      refine AppK.one (R := MdeR true) (l := M) (ex := 192) (fx := (0, 0)) (ox := true) (base := 0) (x := ⟨n, 0, [], [], false⟩) (cx := [str n, int 0, str [], .slice none 0 0, .slice none 0 0, .bool false]) (Fx := []) slt95 und95 (Rp.ext hS.mde (Ext.app _ _)) ⟨fun _ _ => Nat.zero_le _, hS.nM⟩ (by simp) ⟨⟨by unfold okS; dsimp only; omega, by simp [i64], by simp [okS]⟩, _, rfl, SlR.nil⟩ (Fresh.nil _) (by simp) (Nat.zero_le _) (by omega) (by decide) ?_
      intro s6 H6 F6 r1 r2 r3 r4 r5
      obtain ⟨a6, z6, rfl⟩ := r1.form
      simp only [List.length_append, List.length_cons, List.length_nil, Nat.zero_add] at r1 r3 r4 r5
      have k6 : H6[k]? = _ := (r4 k (by omega) (hS.cM.not (by rw [hS.ck]; decide))).trans (kbT _)
      have hs6 : ∀ b : Blk, (H6.set k b)[k]? = some b := fun b => List.getElem?_set_self (by omega)
      simp +contextual (dsimp := false) [k6, hs6]
      obtain ⟨Hb, hHb⟩ : ∃ Hb, Hb = H6.set k (⟨.cells (shpC (.slice a1 sp.sources.length z1) (.slice a2 sp.targets.length z2) (.slice a6 (M.length + 1) z6) (.slice ao (namesD ds).length zo) (.slice at_ way.length zt) ⟨0, [], []⟩ (.slice none 0 0) false) 97 (0, 0), true, true⟩ : Blk) := ⟨_, rfl⟩
      have lb6 : Hb.length = H6.length := by rw [hHb]; simp
      have lb : H.length + 1 ≤ Hb.length := by omega
      have kb6 : Hb[k]? = some (⟨.cells (shpC (.slice a1 sp.sources.length z1) (.slice a2 sp.targets.length z2) (.slice a6 (M.length + 1) z6) (.slice ao (namesD ds).length zo) (.slice at_ way.length zt) ⟨0, [], []⟩ (.slice none 0 0) false) 97 (0, 0), true, true⟩ : Blk) := by rw [hHb]; exact hs6 _
      have ob6 : ∀ j, j ≠ k → Hb[j]? = H6[j]? := fun j hj => by rw [hHb]; exact List.getElem?_set_ne (Ne.symm hj)
      rw [← hHb]
      clear hHb
      obtain ⟨cb, hcb⟩ : ∃ cb : Nat → Nat, cb = fun j => if j < H.length then c j else if j < H.length + 2 then 6 else 1 := ⟨_, rfl⟩
      have cba : ∀ j, j < H.length → cb j = c j := fun j hj => by rw [hcb]; exact if_pos hj
      have cbr : cb H.length = 6 := by rw [hcb]; dsimp only; rw [if_neg (by omega), if_pos (by omega)]
      have cbn : ∀ j, H.length + 2 ≤ j → cb j = 1 := fun j hj => by rw [hcb]; dsimp only; rw [if_neg (by omega), if_neg (by omega)]
      clear hcb
      have nFk : ∀ j ∈ F6, j ≠ k := fun j hj => by
        rcases r5 j hj with h | h | h
        · intro e
          have := (hS.cM j h).2
          rw [e, hS.ck] at this
          omega
        · cases h
        · omega
      have hfb : ∀ j, j < H.length → j ≠ k → j ∉ FM → Hb[j]? = H[j]? := fun j hj h1 h2 => (ob6 j h1).trans ((r4 j (by omega) h2).trans (get_ext hj))
      have rb : Hb[H.length]? = some (⟨.cells #[int 0, str [], .slice none 0 0] 39 (0, 0), true, true⟩ : Blk) := (ob6 _ (by omega)).trans ((r4 H.length (by omega) (fun h => by have := (hS.cM _ h).1; omega)).trans (by simp))
      have hSb := hS.made (by omega) cba hfb kb6 (Rp.fr r1 fun j hj => ob6 j (nFk j hj)) r2.2 (fun j hj => ⟨by have := Rp.lt r1 j hj; omega, by
        rcases r5 j hj with h | h | h
        · exact (cba j (hS.cM j h).1).trans (hS.cM j h).2
        · cases h
        · exact cbn j h⟩)
      have ob : ∀ j, j < H.length → 3 < c j → Hb[j]? = H[j]? := fun j hj h3 => hfb j hj (fun e => by rw [e, hS.ck] at h3; omega) (hS.cM.not (by omega))
      have hOb := hO.push c0
      have nmb : namesM M <+: namesM (M ++ [(⟨n, 0, [], [], false⟩ : Mde)]) := by unfold namesM; rw [List.map_append]; exact List.prefix_append _ _
      have hMlb : (M ++ [(⟨n, 0, [], [], false⟩ : Mde)]).length ≤ ds.length + way.length + 1 := by simp; omega
      have hkk : M.length < (M ++ [(⟨n, 0, [], [], false⟩ : Mde)]).length := by simp
      have hname : (M ++ [(⟨n, 0, [], [], false⟩ : Mde)])[M.length].name = n := by simp
      have hdone : (M ++ [(⟨n, 0, [], [], false⟩ : Mde)])[M.length].done = false := by simp
      have kb := hSb.blk
      have klb := hSb.klt
      have kbT' : ∀ T : Heap, (Hb ++ T)[k]? = _ := fun T => (List.getElem?_append_left klb).trans kb
      have xb : Ext H0 Hb := fun j hj => (ob j (by omega) (hc9 j hj)).trans (hx j hj)
      have cb9 : ∀ j, j < H0.length → 3 < cb j := fun j hj => by rw [cba j (by omega)]; exact hc9 j hj
      have opb := (hOb.opn _ (List.getElem_mem hkk) hdone).1
      obtain ⟨idb, obb, ccb, eb, feb, owb, csb, Fib, Eb⟩ := SlR.get hSb.mde M.length hkk
      obtain ⟨hmkb, ssb, rfl, hsrb⟩ := Eb.rep
      rw [opb] at hsrb
      obtain ⟨assb, zssb, rfl⟩ := hsrb.form
      simp only [List.length_nil] at hsrb
      obtain rfl : owb = true := Eb.own' rfl
      have idl := Eb.lt
      have obl := Eb.le
      have idk : idb ≠ k := fun e => by have := (hSb.cM _ Eb.mem).2; rw [e, hSb.ck] at this; omega
      have idr : idb ≠ H.length := fun e => by have := (hSb.cM _ Eb.mem).2; rw [e, cbr] at this; omega
      refine CallK.fl ⟨_, Tryz.func76, rfl, rfl⟩ (l2Source_ac (Rp.ext hs0 xb) n) ?_
      simp +contextual (dsimp := false) [kb]
      refine CallK.fl ⟨_, Tryz.func77, rfl, rfl⟩ (l2Target_ac (Rp.ext hs0 xb) n) ?_
      by_cases c3 : n ∈ tNames sp
      case neg =>
        rw [show findI (tNames sp) n = -1 from if_neg c3]
        simp +contextual (dsimp := false)
        have hbT : ∀ T : Heap, (Hb ++ T)[idb]? = _ := fun T => (List.getElem?_append_left idl).trans Eb.blk
        have hid1 : ∀ (T : Heap) (b : Blk), ((Hb ++ T).set idb b)[idb]? = some b := fun T b => List.getElem?_set_self (by simp; omega)
        have hk1 : ∀ (T : Heap) (b : Blk), ((Hb ++ T).set idb b)[k]? = _ := fun T b => (List.getElem?_set_ne idk).trans (kbT' T)
        have h81 : ∀ (x b : Blk), ((Hb ++ [x]).set idb b)[Hb.length]? = some x := fun x b => by rw [List.getElem?_set_ne (by omega)]; simp
        by_cases c2 : n ∈ sNames sp
        · rw [if_pos c2] at hM
          subst hM
          rw [show findI (sNames sp) n = (((sNames sp).idxOf n : Nat) : Int) from if_pos c2]
          obtain ⟨hi, hi1, hi2⟩ := souT_at c2
          obtain ⟨ids, os, ccs, es, fes, ows, css, Fis, Es⟩ := SlR.get g1 _ hi
          obtain ⟨rfl, rfl, hoks⟩ := Es.rep
          have hes : ∀ T : Heap, (Hb ++ T)[ids]? = _ := fun T => (List.getElem?_append_left (by have := Es.lt; omega)).trans ((xb ids Es.lt).trans Es.blk)
          have hc1s := Es.cell 1 (by omega)
          have hles := Es.le
          simp +contextual (dsimp := false) [kbT', Es.idx, hes, hc1s, Sou.c, show os + 2 ≤ ccs.size by omega, Eb.idx, hbT, hid1, hk1, h81, show obb + 6 ≤ ccb.size by omega, show obb + 1 + 3 ≤ ccb.size by omega, show obb + 5 < ccb.size by omega, show obb + 5 + 1 ≤ ccb.size by omega, setL_size]
          rw [← hi1]
          obtain ⟨Hc, hHc⟩ : ∃ Hc, Hc = (Hb ++ [(⟨.cells #[int 0, str (souT sp n), .slice none 0 0] 39 (0, 0), true, true⟩ : Blk)]).set idb (⟨.cells (setL (setL ccb (obb + 1) [int 0, str (souT sp n), .slice none 0 0]) (obb + 5) [.bool true]) eb feb, true, true⟩ : Blk) := ⟨_, rfl⟩
          have lc : Hc.length = Hb.length + 1 := by rw [hHc]; simp
          have hco : ∀ j, j < Hb.length → j ≠ idb → Hc[j]? = Hb[j]? := fun j hj hne => by rw [hHc, List.getElem?_set_ne (Ne.symm hne), List.getElem?_append_left hj]
          have hci : Hc[idb]? = some (⟨.cells (setL (setL ccb (obb + 1) [int 0, str (souT sp n), .slice none 0 0]) (obb + 5) [.bool true]) eb feb, true, true⟩ : Blk) := by rw [hHc]; exact hid1 _ _
          have hc8 : Hc[Hb.length]? = some (⟨.cells #[int 0, str (souT sp n), .slice none 0 0] 39 (0, 0), true, true⟩ : Blk) := by rw [hHc]; exact h81 _ _
          rw [← hHc]
          clear hHc
          have ccA : ∀ j, j < Hb.length → cgrow cb Hb.length 6 j = cb j := fun j hj => cgrow_lt hj
          have nid := Eb.notin hSb.nM
          have e0b := Eb.cell 0 (by omega)
          have e4b := Eb.cell 4 (by omega)
          simp only [Nat.add_zero] at e0b
          obtain ⟨FMc, hSc⟩ := hSb.fill hkk Eb (H' := Hc) (cc' := setL (setL ccb (obb + 1) [int 0, str (souT sp n), .slice none 0 0]) (obb + 5) [.bool true]) (cs' := [str n, int 0, str (souT sp n), .slice none 0 0, .slice assb 0 zssb, .bool true]) (Fi' := Fib) (m' := ⟨n, 0, (souT sp n), [], true⟩) (c' := cgrow cb Hb.length 6) (by omega) hci (by simp [setL_size]) rfl (fun j hj => by
              rw [setL_get _ _ _ _ (by simp [setL_size]; omega), setL_get _ _ _ _ (by simp; omega)]
              rcases (show j = 0 ∨ j = 1 ∨ j = 2 ∨ j = 3 ∨ j = 4 ∨ j = 5 by omega) with h | h | h | h | h | h <;> subst h
              · simp [e0b, hname, show ¬ (obb + 5 ≤ obb) by omega, show ¬ (obb + 1 ≤ obb) by omega]
              · simp
              · simp
              · simp
              · simp [e4b]
              · simp) (fun j hj => by
              rw [setL_get _ _ _ _ (by simp [setL_size]; omega), setL_get _ _ _ _ (by simp; omega), if_neg (by simp; omega), if_neg (by simp; omega)])
            ⟨⟨by unfold okS; dsimp only; omega, by simp [i64], by have := souT_ok hsp c2; unfold okS; dsimp only; omega⟩, _, rfl, Rp.fr hsrb fun j hj => hco j (hSb.cM j (Eb.sub j hj)).1 (fun e => nid (e ▸ hj))⟩ hco (fun j hj _ => ccA j hj) (fun j hj => ⟨by have := (hSb.cM j (Eb.sub j hj)).1; omega, (ccA j (hSb.cM j (Eb.sub j hj)).1).trans (hSb.cM j (Eb.sub j hj)).2⟩) (Eb.ndi hSb.nM) (fun j hj => .inl hj)
          have kc := hSc.klt
          have lnd : (namesD ds).length = ds.length := by simp [namesD]
          refine AppK.one (R := strR) (l := namesD ds) (ex := 9) (fx := (0, 0)) (ox := true) (base := 0) (x := n) (cx := [str n]) (Fx := []) slt24 und24 (Rp.ext hSc.ord (Ext.app _ _)) ⟨fun _ _ => Nat.zero_le _, hSc.nO⟩ (by simp [lc]) ⟨rfl, rfl, by unfold okS; omega⟩ (Fresh.nil _) (by simp) (Nat.zero_le _) (by omega) (by decide) ?_
          intro s9 H9 FO9 u1 u2 u3 u4 u5
          obtain ⟨a9, z9, rfl⟩ := u1.form
          simp only [List.length_append, List.length_cons, List.length_nil, Nat.zero_add] at u1 u3 u4 u5
          have c8 : cgrow cb Hb.length 6 Hb.length = 6 := cgrow_ge (Nat.le_refl _)
          have crr : cgrow cb Hb.length 6 H.length = 6 := (ccA _ (by omega)).trans cbr
          have k9 : H9[k]? = _ := (u4 k (by omega) (hSc.cO.not (by rw [hSc.ck]; decide))).trans ((List.getElem?_append_left (by omega)).trans hSc.blk)
          have h98 : H9[Hb.length]? = _ := (u4 _ (by omega) (hSc.cO.not (by rw [c8]; decide))).trans ((List.getElem?_append_left (by omega)).trans hc8)
          have h9r : H9[H.length]? = _ := (u4 _ (by omega) (hSc.cO.not (by rw [crr]; decide))).trans ((List.getElem?_append_left (by omega)).trans ((hco _ (by omega) (Ne.symm idr)).trans rb))
          have kr : k ≠ H.length := by omega
          have s98 : ∀ b : Blk, (H9.set k b)[Hb.length]? = _ := fun b => (List.getElem?_set_ne (by omega)).trans h98
          have s9r : ∀ b : Blk, (H9.set k b)[H.length]? = _ := fun b => (List.getElem?_set_ne kr).trans h9r
          have s9f : ∀ b b' : Blk, ((H9.set k b).set H.length b')[H.length]? = some b' := fun b b' => List.getElem?_set_self (by simp; omega)
          simp +contextual (dsimp := false) [k9, s98, s9r, s9f]
          obtain ⟨Hf, hHf⟩ : ∃ Hf, Hf = H9.set k (⟨.cells (shpC (.slice a1 sp.sources.length z1) (.slice a2 sp.targets.length z2) (.slice a6 (M.length + 1) z6) (.slice a9 ((namesD ds).length + 1) z9) (.slice at_ way.length zt) ⟨0, [], []⟩ (.slice none 0 0) false) 97 (0, 0), true, true⟩ : Blk) := ⟨_, rfl⟩
          have lf : Hf.length = H9.length := by rw [hHf]; simp
          have hfo : ∀ j, j ≠ k → Hf[j]? = H9[j]? := fun j hj => by rw [hHf]; exact List.getElem?_set_ne (Ne.symm hj)
          have hfk : Hf[k]? = some (⟨.cells (shpC (.slice a1 sp.sources.length z1) (.slice a2 sp.targets.length z2) (.slice a6 (M.length + 1) z6) (.slice a9 ((namesD ds).length + 1) z9) (.slice at_ way.length zt) ⟨0, [], []⟩ (.slice none 0 0) false) 97 (0, 0), true, true⟩ : Blk) := by rw [hHf]; exact List.getElem?_set_self (by omega)
          rw [← hHf]
          clear hHf
          have hld := Rp.lt u1
          have nOk : ∀ j ∈ FO9, j ≠ k := fun j hj => by
            rcases u5 j hj with h | h | h
            · intro e
              have := (hSc.cO j h).2
              rw [e, hSc.ck] at this
              omega
            · cases h
            · omega
          have hSf := hSc.orde (H' := Hf) (so' := .slice a9 ((namesD ds).length + 1) z9) (ds' := ds ++ [(⟨n, 1, 0, souT sp n, [], []⟩ : Deed)]) (FO' := FO9) (c' := cgrow (cgrow cb Hb.length 6) Hc.length 2) (by omega) (fun j hj => cgrow_lt hj) (fun j hj h1 h2 => (hfo j h1).trans ((u4 j (by omega) h2).trans (List.getElem?_append_left hj))) hfk (by
              rw [show namesD (ds ++ [(⟨n, 1, 0, souT sp n, [], []⟩ : Deed)]) = namesD ds ++ [n] by simp [namesD]]
              exact Rp.fr u1 fun j hj => hfo j (nOk j hj)) u2.2 (fun j hj => ⟨by have := hld j hj; omega, by
              rcases u5 j hj with h | h | h
              · exact (cgrow_lt (hSc.cO j h).1).trans (hSc.cO j h).2
              · cases h
              · exact cgrow_ge (by omega)⟩)
          have crf : cgrow (cgrow cb Hb.length 6) Hc.length 2 H.length = 6 := (cgrow_lt (by omega)).trans crr
          refine ⟨by rw [dAt_app]; simp [resD], cgrow (cgrow cb Hb.length 6) Hc.length 2, _, ⟨by simp; omega, fun j hj => (cgrow_lt (by omega)).trans ((ccA j (by omega)).trans (cba j hj)), fun j hj h3 => ?_, ⟨_, _, _, FMc, FO9, FT, hSf.up (by simp) (fun j _ => rfl) fun j hj h3 => List.getElem?_set_ne (fun e => by rw [← e, crf] at h3; omega)⟩, ?_, ?_, by simp; omega⟩⟩
          · rw [List.getElem?_set_ne (by omega), hfo j (fun e => by rw [e, hS.ck] at h3; omega), u4 j (by omega) (hSc.cO.not (by rw [ccA j (by omega), cba j hj]; omega)), List.getElem?_append_left (by omega), hco j (by omega) (fun e => by have := (hSb.cM _ Eb.mem).2; rw [← e, cba j hj] at this; omega)]
            exact ob j hj h3
          · exact hOb.done hkk (d := (⟨n, 1, 0, souT sp n, [], []⟩ : Deed)) hname.symm c1 rfl
          · rw [namesM_set hkk hname.symm]
            exact nmb
        · rw [if_neg c2, if_pos c3] at hM
          subst hM
          rw [show findI (sNames sp) n = -1 from if_neg c2]
          simp +contextual (dsimp := false) [kbT', Eb.idx, hbT, hid1, hk1, h81, show obb + 6 ≤ ccb.size by omega, show obb + 1 + 3 ≤ ccb.size by omega, show obb + 5 < ccb.size by omega, show obb + 5 + 1 ≤ ccb.size by omega, setL_size]
          obtain ⟨Hc, hHc⟩ : ∃ Hc, Hc = (Hb ++ [(⟨.cells #[int 4, str n, .slice none 0 0] 39 (0, 0), true, true⟩ : Blk)]).set idb (⟨.cells (setL (setL ccb (obb + 1) [int 4, str n, .slice none 0 0]) (obb + 5) [.bool true]) eb feb, true, true⟩ : Blk) := ⟨_, rfl⟩
          have lc : Hc.length = Hb.length + 1 := by rw [hHc]; simp
          have hco : ∀ j, j < Hb.length → j ≠ idb → Hc[j]? = Hb[j]? := fun j hj hne => by rw [hHc, List.getElem?_set_ne (Ne.symm hne), List.getElem?_append_left hj]
          have hci : Hc[idb]? = some (⟨.cells (setL (setL ccb (obb + 1) [int 4, str n, .slice none 0 0]) (obb + 5) [.bool true]) eb feb, true, true⟩ : Blk) := by rw [hHc]; exact hid1 _ _
          have hc8 : Hc[Hb.length]? = some (⟨.cells #[int 4, str n, .slice none 0 0] 39 (0, 0), true, true⟩ : Blk) := by rw [hHc]; exact h81 _ _
          rw [← hHc]
          clear hHc
          have ccA : ∀ j, j < Hb.length → cgrow cb Hb.length 6 j = cb j := fun j hj => cgrow_lt hj
          have nid := Eb.notin hSb.nM
          have e0b := Eb.cell 0 (by omega)
          have e4b := Eb.cell 4 (by omega)
          simp only [Nat.add_zero] at e0b
          obtain ⟨FMc, hSc⟩ := hSb.fill hkk Eb (H' := Hc) (cc' := setL (setL ccb (obb + 1) [int 4, str n, .slice none 0 0]) (obb + 5) [.bool true]) (cs' := [str n, int 4, str n, .slice none 0 0, .slice assb 0 zssb, .bool true]) (Fi' := Fib) (m' := ⟨n, 4, n, [], true⟩) (c' := cgrow cb Hb.length 6) (by omega) hci (by simp [setL_size]) rfl (fun j hj => by
              rw [setL_get _ _ _ _ (by simp [setL_size]; omega), setL_get _ _ _ _ (by simp; omega)]
              rcases (show j = 0 ∨ j = 1 ∨ j = 2 ∨ j = 3 ∨ j = 4 ∨ j = 5 by omega) with h | h | h | h | h | h <;> subst h
              · simp [e0b, hname, show ¬ (obb + 5 ≤ obb) by omega, show ¬ (obb + 1 ≤ obb) by omega]
              · simp
              · simp
              · simp
              · simp [e4b]
              · simp) (fun j hj => by
              rw [setL_get _ _ _ _ (by simp [setL_size]; omega), setL_get _ _ _ _ (by simp; omega), if_neg (by simp; omega), if_neg (by simp; omega)])
            ⟨⟨by unfold okS; dsimp only; omega, by simp [i64], by unfold okS; dsimp only; omega⟩, _, rfl, Rp.fr hsrb fun j hj => hco j (hSb.cM j (Eb.sub j hj)).1 (fun e => nid (e ▸ hj))⟩ hco (fun j hj _ => ccA j hj) (fun j hj => ⟨by have := (hSb.cM j (Eb.sub j hj)).1; omega, (ccA j (hSb.cM j (Eb.sub j hj)).1).trans (hSb.cM j (Eb.sub j hj)).2⟩) (Eb.ndi hSb.nM) (fun j hj => .inl hj)
          have kc := hSc.klt
          have lnd : (namesD ds).length = ds.length := by simp [namesD]
          refine AppK.one (R := strR) (l := namesD ds) (ex := 9) (fx := (0, 0)) (ox := true) (base := 0) (x := n) (cx := [str n]) (Fx := []) slt24 und24 (Rp.ext hSc.ord (Ext.app _ _)) ⟨fun _ _ => Nat.zero_le _, hSc.nO⟩ (by simp [lc]) ⟨rfl, rfl, by unfold okS; omega⟩ (Fresh.nil _) (by simp) (Nat.zero_le _) (by omega) (by decide) ?_
          intro s9 H9 FO9 u1 u2 u3 u4 u5
          obtain ⟨a9, z9, rfl⟩ := u1.form
          simp only [List.length_append, List.length_cons, List.length_nil, Nat.zero_add] at u1 u3 u4 u5
          have c8 : cgrow cb Hb.length 6 Hb.length = 6 := cgrow_ge (Nat.le_refl _)
          have crr : cgrow cb Hb.length 6 H.length = 6 := (ccA _ (by omega)).trans cbr
          have k9 : H9[k]? = _ := (u4 k (by omega) (hSc.cO.not (by rw [hSc.ck]; decide))).trans ((List.getElem?_append_left (by omega)).trans hSc.blk)
          have h98 : H9[Hb.length]? = _ := (u4 _ (by omega) (hSc.cO.not (by rw [c8]; decide))).trans ((List.getElem?_append_left (by omega)).trans hc8)
          have h9r : H9[H.length]? = _ := (u4 _ (by omega) (hSc.cO.not (by rw [crr]; decide))).trans ((List.getElem?_append_left (by omega)).trans ((hco _ (by omega) (Ne.symm idr)).trans rb))
          have kr : k ≠ H.length := by omega
          have s98 : ∀ b : Blk, (H9.set k b)[Hb.length]? = _ := fun b => (List.getElem?_set_ne (by omega)).trans h98
          have s9r : ∀ b : Blk, (H9.set k b)[H.length]? = _ := fun b => (List.getElem?_set_ne kr).trans h9r
          have s9f : ∀ b b' : Blk, ((H9.set k b).set H.length b')[H.length]? = some b' := fun b b' => List.getElem?_set_self (by simp; omega)
          simp +contextual (dsimp := false) [k9, s98, s9r, s9f]
          obtain ⟨Hf, hHf⟩ : ∃ Hf, Hf = H9.set k (⟨.cells (shpC (.slice a1 sp.sources.length z1) (.slice a2 sp.targets.length z2) (.slice a6 (M.length + 1) z6) (.slice a9 ((namesD ds).length + 1) z9) (.slice at_ way.length zt) ⟨0, [], []⟩ (.slice none 0 0) false) 97 (0, 0), true, true⟩ : Blk) := ⟨_, rfl⟩
          have lf : Hf.length = H9.length := by rw [hHf]; simp
          have hfo : ∀ j, j ≠ k → Hf[j]? = H9[j]? := fun j hj => by rw [hHf]; exact List.getElem?_set_ne (Ne.symm hj)
          have hfk : Hf[k]? = some (⟨.cells (shpC (.slice a1 sp.sources.length z1) (.slice a2 sp.targets.length z2) (.slice a6 (M.length + 1) z6) (.slice a9 ((namesD ds).length + 1) z9) (.slice at_ way.length zt) ⟨0, [], []⟩ (.slice none 0 0) false) 97 (0, 0), true, true⟩ : Blk) := by rw [hHf]; exact List.getElem?_set_self (by omega)
          rw [← hHf]
          clear hHf
          have hld := Rp.lt u1
          have nOk : ∀ j ∈ FO9, j ≠ k := fun j hj => by
            rcases u5 j hj with h | h | h
            · intro e
              have := (hSc.cO j h).2
              rw [e, hSc.ck] at this
              omega
            · cases h
            · omega
          have hSf := hSc.orde (H' := Hf) (so' := .slice a9 ((namesD ds).length + 1) z9) (ds' := ds ++ [(⟨n, 2, 0, [], [], []⟩ : Deed)]) (FO' := FO9) (c' := cgrow (cgrow cb Hb.length 6) Hc.length 2) (by omega) (fun j hj => cgrow_lt hj) (fun j hj h1 h2 => (hfo j h1).trans ((u4 j (by omega) h2).trans (List.getElem?_append_left hj))) hfk (by
              rw [show namesD (ds ++ [(⟨n, 2, 0, [], [], []⟩ : Deed)]) = namesD ds ++ [n] by simp [namesD]]
              exact Rp.fr u1 fun j hj => hfo j (nOk j hj)) u2.2 (fun j hj => ⟨by have := hld j hj; omega, by
              rcases u5 j hj with h | h | h
              · exact (cgrow_lt (hSc.cO j h).1).trans (hSc.cO j h).2
              · cases h
              · exact cgrow_ge (by omega)⟩)
          have crf : cgrow (cgrow cb Hb.length 6) Hc.length 2 H.length = 6 := (cgrow_lt (by omega)).trans crr
          refine ⟨by rw [dAt_app]; simp [resD], cgrow (cgrow cb Hb.length 6) Hc.length 2, _, ⟨by simp; omega, fun j hj => (cgrow_lt (by omega)).trans ((ccA j (by omega)).trans (cba j hj)), fun j hj h3 => ?_, ⟨_, _, _, FMc, FO9, FT, hSf.up (by simp) (fun j _ => rfl) fun j hj h3 => List.getElem?_set_ne (fun e => by rw [← e, crf] at h3; omega)⟩, ?_, ?_, by simp; omega⟩⟩
          · rw [List.getElem?_set_ne (by omega), hfo j (fun e => by rw [e, hS.ck] at h3; omega), u4 j (by omega) (hSc.cO.not (by rw [ccA j (by omega), cba j hj]; omega)), List.getElem?_append_left (by omega), hco j (by omega) (fun e => by have := (hSb.cM _ Eb.mem).2; rw [← e, cba j hj] at this; omega)]
            exact ob j hj h3
          · exact hOb.done hkk (d := (⟨n, 2, 0, [], [], []⟩ : Deed)) hname.symm c1 rfl
          · rw [namesM_set hkk hname.symm]
            exact nmb
      have c2 : n ∉ sNames sp := fun hm => by
        obtain ⟨sx, hs1, hs2⟩ := List.mem_map.1 hm
        exact q6.1 sx hs1 (by rw [hs2]; exact c3)
      rw [if_neg c2, if_neg (fun h => h c3)] at hM
      obtain ⟨hi, hi1, hi2⟩ := tgtA_at c3
      rw [show findI (tNames sp) n = (((tNames sp).idxOf n : Nat) : Int) from if_pos c3]
      simp +contextual (dsimp := false) [show ¬ (((tNames sp).idxOf n : Nat) : Int) < 0 by omega]
      refine LoopA.upc (σ := Nat) [0, 1, 4, 5, 7, 9] (fun i => [(9, int i)]) (fun i => i ≤ way.length ∧ ∀ j (hj : j < way.length), j < i → way[j] ≠ n) (fun i => way.length - i) 0 rfl (by simp) ?_
      rintro i ⟨hi', hv⟩
      have hk2 : ∀ b : Blk, (Hb.set k b)[k]? = some b := fun b => List.getElem?_set_self klb
      simp +contextual (dsimp := false) [kb]
      refine ifA_dec (fun h3 => ?_) (fun h3 => ?_)
      · obtain ⟨ide, oe, cce, ee, fee, owe, cse, Fie, Ee⟩ := SlR.get hSb.stk i h3
        obtain ⟨rfl, rfl, hoke⟩ := Ee.rep
        have hcle := Ee.cell0 (by omega)
        simp +contextual (dsimp := false) [Ee.idx, Ee.goB, Ee.le, Ee.lt, Ee.ext, hcle, kb, hk2, wrap_succ (show i < 9223372036854775807 by omega)]
        refine ifA_dec (fun h4 => ?_) (fun h4 => ?_)
        · have hwm : n ∈ way := by rw [← h4]; exact List.getElem_mem h3
          have hidx : way.idxOf n = i := by
            have e1 := List.getElem_idxOf (List.idxOf_lt_length_iff.2 hwm)
            have e2 : ¬ way.idxOf n < i := fun hlt => hv _ (List.idxOf_lt_length_iff.2 hwm) hlt e1
            exact (List.getElem_inj hk.wnd).1 (e1.trans h4.symm)
          rw [if_pos hwm, hidx] at hM
          subst hM
          obtain ⟨slc, Flc, hcl⟩ := hSb.stk.weak.cut (P := Tryz.prog) (et := 9) i way.length (by omega) (Nat.le_refl _) siz9
          obtain ⟨hcl, hclF, -, -, -, hsr, -⟩ := hcl (fun h => by cases h)
          have hsr := hsr rfl
          rw [List.take_length] at hcl
          obtain ⟨alc, zlc, rfl⟩ := hcl.form
          rw [List.length_drop] at hcl hsr
          have hk3 : ∀ (b : Blk) (T : Heap), (Hb.set k b ++ T)[k]? = some b := fun b T => (List.getElem?_append_left (by simp; omega)).trans (hk2 b)
          simp +contextual (dsimp := false) [hk3, hsr]
          have nlk : ∀ j ∈ Flc, j ≠ k := fun j hj e => by
            have := (hSb.cT j (hclF j hj)).2
            rw [e, hSb.ck] at this
            omega
          refine AppK.many (base := Hb.length) slt24 und24 (SlR.mt (R := strR) (e := 9) (f := (0, 0)) (by simp)) (Fresh.one (n := Hb.length) (Nat.le_refl _)) (Rp.ext (Rp.fr (H' := Hb.set k _) hcl fun j hj => List.getElem?_set_ne (Ne.symm (nlk j hj))) (Ext.app _ _)) (by rw [SlR.flatF hcl]; exact Fresh.nil _) (by rw [SlR.flatF hcl]; simp) (by simp) (by simp; omega) (by decide) ?_
          intro s9 H9 FC9 u1 u2 u3 u4 u5
          obtain ⟨a9, z9, rfl⟩ := u1.form
          simp only [List.nil_append, List.length_append, List.length_cons, List.length_nil, Nat.zero_add, List.length_set, List.mem_singleton, List.length_drop] at u1 u3 u4
          have k9 : H9[k]? = _ := (u4 k (by omega) (by omega)).trans (hk3 _ _)
          have r9 : H9[H.length]? = _ := (u4 H.length (by omega) (by omega)).trans ((List.getElem?_append_left (by simp; omega)).trans ((List.getElem?_set_ne (by omega)).trans rb))
          have kr : k ≠ H.length := by omega
          have s9k : ∀ b : Blk, (H9.set k b)[k]? = some b := fun b => List.getElem?_set_self (by omega)
          have s9r : ∀ b : Blk, (H9.set k b)[H.length]? = _ := fun b => (List.getElem?_set_ne kr).trans r9
          have s9f : ∀ b b' : Blk, ((H9.set k b).set H.length b')[H.length]? = some b' := fun b b' => List.getElem?_set_self (by simp; omega)
          have s9g : ∀ b b' : Blk, ((H9.set k b).set H.length b')[k]? = some b := fun b b' => (List.getElem?_set_ne (Ne.symm kr)).trans (s9k b)
          simp +contextual (dsimp := false) [k9, s9k, s9r, s9f, s9g]
          refine ⟨by simp; omega, fun j hj h3' => ?_, _, _, _, _, FC9, rfl, s9g _ _, Rp.fr u1 fun j hj => ?_, fun j hj => ?_, u2.weak (by omega)⟩
          · have jk : j ≠ k := fun e => by rw [e, hS.ck] at h3'; omega
            rw [List.getElem?_set_ne (by omega), List.getElem?_set_ne (Ne.symm jk), u4 j (by omega) (by omega), List.getElem?_append_left (by simp; omega), List.getElem?_set_ne (Ne.symm jk)]
            exact ob j hj h3'
          · have := u2.1 j hj
            rw [List.getElem?_set_ne (by omega), List.getElem?_set_ne (by omega)]
          · have := u2.1 j hj
            omega
        · exact LoopN.of (i + 1) rfl ⟨h3, fun j hj hlt => by
            rcases Nat.lt_or_ge j i with h | h
            · exact hv j hj h
            · obtain rfl : j = i := by omega
              exact h4⟩ (by omega)
      · have hwn : n ∉ way := fun hm => by
          obtain ⟨j, hj, he⟩ := List.mem_iff_getElem.1 hm
          exact hv j hj (by omega) he
        rw [if_neg hwn] at hM
        have kr : k ≠ H.length := by omega
        have hk2r : ∀ b : Blk, (Hb.set k b)[H.length]? = _ := fun b => (List.getElem?_set_ne kr).trans rb
        have hk2f : ∀ b b' : Blk, ((Hb.set k b).set H.length b')[H.length]? = some b' := fun b b' => List.getElem?_set_self (by simp; omega)
        have hk2g : ∀ b b' : Blk, ((Hb.set k b).set H.length b')[k]? = some b := fun b b' => (List.getElem?_set_ne (Ne.symm kr)).trans (hk2 b)
        simp +contextual (dsimp := false) [kb, hk2, hk2r, hk2f, hk2g]
        refine ifA_dec (fun h5 => ?_) (fun h5 => ?_)
        · rw [if_pos (show way.length = 60 by omega)] at hM
          subst hM
          refine ⟨by simp; omega, fun j hj h3' => ?_, _, _, _, _, [], rfl, hk2g _ _, SlR.nil, by simp, Fresh.nil _⟩
          have jk : j ≠ k := fun e => by rw [e, hS.ck] at h3'; omega
          rw [List.getElem?_set_ne (by omega), List.getElem?_set_ne (Ne.symm jk)]
          exact ob j hj h3'
        · rw [if_neg (show ¬ way.length = 60 by omega)] at hM
          have hcv := tgtA_ok hsp c3
          refine AppK.one (R := strR) (l := way) (ex := 9) (fx := (0, 0)) (ox := true) (base := 0) (x := n) (cx := [str n]) (Fx := []) slt24 und24 (Rp.ext hSb.stk (Ext.app _ _)) ⟨fun _ _ => Nat.zero_le _, hSb.nT⟩ (by simp) ⟨rfl, rfl, by unfold okS; omega⟩ (Fresh.nil _) (by simp) (Nat.zero_le _) (by omega) (by decide) ?_
          intro s9 H9 FT9 u1 u2 u3 u4 u5
          obtain ⟨a9, z9, rfl⟩ := u1.form
          simp only [List.length_append, List.length_cons, List.length_nil, Nat.zero_add] at u1 u3 u4 u5
          have k9 : H9[k]? = _ := (u4 k (by omega) (hSb.cT.not (by rw [hSb.ck]; decide))).trans ((List.getElem?_append_left klb).trans kb)
          have s9k : ∀ b : Blk, (H9.set k b)[k]? = some b := fun b => List.getElem?_set_self (by omega)
          obtain ⟨idt, ott, cct, et_, fet, owt, cst, Fit, Et⟩ := SlR.get g2 _ hi
          obtain ⟨hkT, sa, rfl, hcode⟩ := Et.rep
          obtain ⟨act, zct, rfl⟩ := hcode.form
          have hxp : cct.extract (ott + 1) (ott + 1 + 1) = #[.slice act (sp.targets[(tNames sp).idxOf n]).action.length zct] := Et.part 1 1 (by omega)
          have hlet := Et.le
          have idt0 := Et.lt
          have cbT := cb9 idt idt0
          have idtk : idt ≠ k := fun e => by rw [e, hSb.ck] at cbT; omega
          have h9t : ∀ b : Blk, (H9.set k b)[idt]? = _ := fun b => (List.getElem?_set_ne (Ne.symm idtk)).trans ((u4 idt (by omega) (hSb.cT.not (by omega))).trans ((List.getElem?_append_left (by omega)).trans ((xb idt idt0).trans Et.blk)))
          simp +contextual (dsimp := false) [k9, s9k, h9t, Et.idx, hxp, show ott + 2 ≤ cct.size by omega, show ott + 1 + 1 ≤ cct.size by omega]
          obtain ⟨Hp, hHp⟩ : ∃ Hp, Hp = H9.set k (⟨.cells (shpC (.slice a1 sp.sources.length z1) (.slice a2 sp.targets.length z2) (.slice a6 (M.length + 1) z6) (.slice ao (namesD ds).length zo) (.slice a9 (way.length + 1) z9) ⟨0, [], []⟩ (.slice none 0 0) false) 97 (0, 0), true, true⟩ : Blk) := ⟨_, rfl⟩
          have lp : Hp.length = H9.length := by rw [hHp]; simp
          have kp : Hp[k]? = some (⟨.cells (shpC (.slice a1 sp.sources.length z1) (.slice a2 sp.targets.length z2) (.slice a6 (M.length + 1) z6) (.slice ao (namesD ds).length zo) (.slice a9 (way.length + 1) z9) ⟨0, [], []⟩ (.slice none 0 0) false) 97 (0, 0), true, true⟩ : Blk) := by rw [hHp]; exact s9k _
          have hpo : ∀ j, j ≠ k → Hp[j]? = H9[j]? := fun j hj => by rw [hHp]; exact List.getElem?_set_ne (Ne.symm hj)
          rw [← hHp]
          clear hHp
          have nTk : ∀ j ∈ FT9, j ≠ k := fun j hj => by
            rcases u5 j hj with h | h | h
            · intro e
              have := (hSb.cT j h).2
              rw [e, hSb.ck] at this
              omega
            · cases h
            · omega
          have hp9 : ∀ j, j < Hb.length → j ≠ k → j ∉ FT → Hp[j]? = Hb[j]? := fun j hj h1 h2 => (hpo j h1).trans ((u4 j (by omega) h2).trans (List.getElem?_append_left hj))
          have cpa : ∀ j, j < Hb.length → cgrow cb Hb.length 3 j = cb j := fun j hj => cgrow_lt hj
          have hSp := hSb.stck (H' := Hp) (st' := .slice a9 (way.length + 1) z9) (way' := way ++ [n]) (FT' := FT9) (c' := cgrow cb Hb.length 3) (by omega) cpa hp9 kp (Rp.fr u1 fun j hj => hpo j (nTk j hj)) u2.2 (fun j hj => ⟨by have := Rp.lt u1 j hj; omega, by
            rcases u5 j hj with h | h | h
            · exact (cpa j (hSb.cT j h).1).trans (hSb.cT j h).2
            · cases h
            · exact cgrow_ge (by omega)⟩)
          have hp3 : ∀ j, j < Hb.length → 3 < cb j → Hp[j]? = Hb[j]? := fun j hj h3 => hp9 j hj (fun e => by rw [e, hSb.ck] at h3; omega) (hSb.cT.not (by omega))
          have xp : Ext H0 Hp := fun j hj => (hp3 j (by omega) (cb9 j hj)).trans (xb j hj)
          have cp9 : ∀ j, j < H0.length → 3 < cgrow cb Hb.length 3 j := fun j hj => by rw [cpa j (by omega)]; exact cb9 j hj
          have hkw := hk.way c1 c3 hwn
          have hlT := leftT_way (sp := sp) (way := way) (ds := ds) c3 c1 hwn
          have cpr : cgrow cb Hb.length 3 H.length = 6 := (cpa _ (by omega)).trans cbr
          have rp : Hp[H.length]? = _ := (hp3 H.length (by omega) (by rw [cbr]; decide)).trans rb
          rw [← hi1] at hcode ⊢
          refine CallK.of ⟨_, Tryz.func165, rfl, rfl⟩ (shRun_ac hsp hs0 ih xp cp9 hSp hOb (by simp only [List.length_append, List.length_singleton] at hMlb ⊢; omega) hkw hfit (by simp; omega) (by simp; omega) hcv hcode (by omega)) ?_
          intro v S5 hrun
          generalize hRR : runM (fun ds n' => makeM sp f (way ++ [n]) ds n') sp (tgtA sp n) 200 (run (tgtA sp n) Am.start) ds [] = RR at hM hrun
          cases RR with
          | stop r =>
            dsimp only at hM
            subst hM
            obtain ⟨ql, qo, sv, sm5, so5, st5, sc5, F5, rfl, qk, qc, qn, qf⟩ := hrun
            obtain ⟨asc, zsc, rfl⟩ := qc.form
            have k5l := (List.getElem?_eq_some_iff.1 qk).1
            have r5 : S5[H.length]? = _ := (qo H.length (by omega) (by rw [cpr]; decide)).trans rp
            have k5T : ∀ T : Heap, (S5 ++ T)[k]? = _ := fun T => (List.getElem?_append_left k5l).trans qk
            have r5T : ∀ T : Heap, (S5 ++ T)[H.length]? = _ := fun T => (List.getElem?_append_left (by omega)).trans r5
            have r5f : ∀ (T : Heap) (b : Blk), ((S5 ++ T).set H.length b)[H.length]? = some b := fun T b => List.getElem?_set_self (by simp; omega)
            simp +contextual (dsimp := false) [qk, k5T, r5T, r5f]
            refine ⟨by simp; omega, fun j hj h3' => ?_, _, _, _, _, F5, rfl, (List.getElem?_set_ne (Ne.symm kr)).trans (k5T _), Rp.fr qc fun j hj => ?_, qn, qf.weak (by omega)⟩
            · have h3b : 3 < cb j := by rw [cba j hj]; exact h3'
              rw [List.getElem?_set_ne (by omega), List.getElem?_append_left (by omega), qo j (by omega) (by rw [cpa j (by omega)]; exact h3b), hp3 j (by omega) h3b]
              exact ob j hj h3'
            · have := qf.1 j hj
              rw [List.getElem?_set_ne (by omega), List.getElem?_append_left (Rp.lt qc j hj)]
          | done cf tf ds' ls =>
            dsimp only at hM
            obtain ⟨sv, FE, c5, M5, rfl, qsen, qnd, qcE, qge, L5⟩ := hrun
            obtain ⟨asv, zsv, rfl⟩ := qsen.form
            obtain ⟨sm5, so5, st5, FM5, FO5, FT5, S5s⟩ := L5.shp
            obtain ⟨am5, zm5, rfl⟩ := S5s.mde.form
            obtain ⟨ao5, zo5, rfl⟩ := S5s.ord.form
            obtain ⟨at5, zt5, rfl⟩ := S5s.stk.form
            have k5 := S5s.blk
            have k5l := S5s.klt
            have l5 := L5.le
            have r5 : S5[H.length]? = _ := (L5.old H.length (by omega) (by rw [cpr]; decide)).trans rp
            have c5r : c5 H.length = 6 := (L5.col _ (by omega)).trans cpr
            obtain ⟨hk5l, hname5'⟩ := names_pre L5.nam hkk
            have hname5 := hname5'.trans hname
            obtain ⟨id5, o5, cc5, e5, fe5, ow5, cs5, Fi5, E5⟩ := SlR.get S5s.mde M.length hk5l
            obtain ⟨hmk5, ss5, rfl, hsr5⟩ := E5.rep
            obtain ⟨ass5, zss5, rfl⟩ := hsr5.form
            obtain rfl : ow5 = true := E5.own' rfl
            have id5l := E5.lt
            have o5l := E5.le
            have id5k : id5 ≠ k := fun e => by have := (S5s.cM _ E5.mem).2; rw [e, S5s.ck] at this; omega
            have id5r : id5 ≠ H.length := fun e => by have := (S5s.cM _ E5.mem).2; rw [e, c5r] at this; omega
            obtain ⟨slw, Flw, hcl0⟩ := S5s.stk.cut (P := Tryz.prog) (et := 9) 0 way.length (by omega) (by simp) siz9
            obtain ⟨hcw, hsubw, hndw, -, -, -, hslw⟩ := hcl0 (fun _ => rfl)
            clear hcl0
            replace hslw := hslw rfl
            simp only [List.drop_zero, List.take_left', List.length_append, List.length_singleton] at hcw hslw
            have hswr : IntKind.i64.wrap (way.length : Int) = way.length := wrap_of _ (by omega) (by omega)
            obtain ⟨al, zl, rfl⟩ := hcw.form
            have k5T : ∀ T : Heap, (S5 ++ T)[k]? = _ := fun T => (List.getElem?_append_left k5l).trans k5
            have x1 : ∀ (T : Heap) (b : Blk), ((S5 ++ T).set k b)[k]? = some b := fun T b => List.getElem?_set_self (by simp; omega)
            have x2 : ∀ (T : Heap) (b : Blk), ((S5 ++ T).set k b)[id5]? = _ := fun T b => (List.getElem?_set_ne (Ne.symm id5k)).trans ((List.getElem?_append_left id5l).trans E5.blk)
            have x3 : ∀ (x b : Blk), ((S5 ++ [x]).set k b)[S5.length]? = some x := fun x b => by rw [List.getElem?_set_ne (by omega)]; simp
            have x4 : ∀ (T : Heap) (b b' : Blk), (((S5 ++ T).set k b).set id5 b')[id5]? = some b' := fun T b b' => List.getElem?_set_self (by simp; omega)
            have x5 : ∀ (T : Heap) (b b' : Blk), (((S5 ++ T).set k b).set id5 b')[k]? = some b := fun T b b' => (List.getElem?_set_ne id5k).trans (x1 T b)
            have x6 : ∀ (x b b' : Blk), (((S5 ++ [x]).set k b).set id5 b')[S5.length]? = some x := fun x b b' => (List.getElem?_set_ne (by omega)).trans (x3 x b)
            have x3g : ∀ (x b : Blk) (h : S5.length < ((S5 ++ [x]).set k b).length), ((S5 ++ [x]).set k b)[S5.length]'h = x := fun x b h => by rw [List.getElem_set_ne (by omega)]; simp
            have x6g : ∀ (x b b' : Blk) (h : S5.length < (((S5 ++ [x]).set k b).set id5 b').length), (((S5 ++ [x]).set k b).set id5 b')[S5.length]'h = x := fun x b b' h => by rw [List.getElem_set_ne (by omega), List.getElem_set_ne (by omega)]; simp
            simp +contextual (dsimp := false) [x3g, x6g, k5, k5T, x1, x2, x3, x4, x5, x6, hslw, hswr, E5.idx, setL_size, show o5 + 1 + 3 ≤ cc5.size by omega, show o5 + 4 < cc5.size by omega, show o5 + 4 + 1 ≤ cc5.size by omega, show o5 + 5 < cc5.size by omega, show o5 + 5 + 1 ≤ cc5.size by omega]
            subst hM
            have hmkH : MkH sp (way ++ [n]) fun ds n' => makeM sp f (way ++ [n]) ds n' := mkH hsp (by simp; omega) (by simp; omega)
            have hRn := runM_ok hcv hmkH.ok 200 (run (tgtA sp n) Am.start) ds [] (by simp) (run_lookAt hcv _ Am.start start_ok rfl) (run_finOk hcv _ Am.start start_ok rfl) (fun m => run_ng _ _ Am.start m rfl start_ok.steps) hkw
            rw [hRR] at hRn
            obtain ⟨i1, i2, i3, i4, i5, i6, i7⟩ := hRn
            have hnn : n ∉ namesD ds' := (i1.wt n (by simp)).2
            obtain ⟨Hc, hHc⟩ : ∃ Hc, Hc = ((S5 ++ [(⟨.cells #[int cf, str tf, .slice none 0 0] 39 (0, 0), true, true⟩ : Blk)]).set k (⟨.cells (shpC (.slice a1 sp.sources.length z1) (.slice a2 sp.targets.length z2) (.slice am5 M5.length zm5) (.slice ao5 (namesD ds').length zo5) (.slice al way.length zl) ⟨0, [], []⟩ (.slice none 0 0) false) 97 (0, 0), true, true⟩ : Blk)).set id5
              (⟨.cells (setL (setL (setL cc5 (o5 + 1) [int cf, str tf, .slice none 0 0]) (o5 + 4) [.slice asv (senL ls).length zsv]) (o5 + 5) [.bool true]) e5 fe5, true, true⟩ : Blk) := ⟨_, rfl⟩
            have lc : Hc.length = S5.length + 1 := by rw [hHc]; simp
            have hco : ∀ j, j < S5.length → j ≠ k → j ≠ id5 → Hc[j]? = S5[j]? := fun j hj h1 h2 => by rw [hHc, List.getElem?_set_ne (Ne.symm h2), List.getElem?_set_ne (Ne.symm h1), List.getElem?_append_left hj]
            have hck : Hc[k]? = some (⟨.cells (shpC (.slice a1 sp.sources.length z1) (.slice a2 sp.targets.length z2) (.slice am5 M5.length zm5) (.slice ao5 (namesD ds').length zo5) (.slice al way.length zl) ⟨0, [], []⟩ (.slice none 0 0) false) 97 (0, 0), true, true⟩ : Blk) := by rw [hHc]; exact x5 _ _ _
            have hci : Hc[id5]? = some (⟨.cells (setL (setL (setL cc5 (o5 + 1) [int cf, str tf, .slice none 0 0]) (o5 + 4) [.slice asv (senL ls).length zsv]) (o5 + 5) [.bool true]) e5 fe5, true, true⟩ : Blk) := by rw [hHc]; exact x4 _ _ _
            have hc8 : Hc[S5.length]? = some (⟨.cells #[int cf, str tf, .slice none 0 0] 39 (0, 0), true, true⟩ : Blk) := by rw [hHc]; exact x6 _ _ _
            rw [← hHc]
            clear hHc
            obtain ⟨Hf5, hHf5⟩ : ∃ Hf5, Hf5 = (S5 ++ [(⟨.cells #[int cf, str tf, .slice none 0 0] 39 (0, 0), true, true⟩ : Blk)]).set id5 (⟨.cells (setL (setL (setL cc5 (o5 + 1) [int cf, str tf, .slice none 0 0]) (o5 + 4) [.slice asv (senL ls).length zsv]) (o5 + 5) [.bool true]) e5 fe5, true, true⟩ : Blk) := ⟨_, rfl⟩
            have lf5 : Hf5.length = S5.length + 1 := by rw [hHf5]; simp
            have hfid : Hf5[id5]? = some (⟨.cells (setL (setL (setL cc5 (o5 + 1) [int cf, str tf, .slice none 0 0]) (o5 + 4) [.slice asv (senL ls).length zsv]) (o5 + 5) [.bool true]) e5 fe5, true, true⟩ : Blk) := by rw [hHf5]; exact List.getElem?_set_self (by simp; omega)
            have hfo5 : ∀ j, j < S5.length → j ≠ id5 → Hf5[j]? = S5[j]? := fun j hj h2 => by rw [hHf5, List.getElem?_set_ne (Ne.symm h2), List.getElem?_append_left hj]
            have hf58 : Hf5[S5.length]? = some (⟨.cells #[int cf, str tf, .slice none 0 0] 39 (0, 0), true, true⟩ : Blk) := by rw [hHf5, List.getElem?_set_ne (by omega)]; simp
            clear hHf5
            obtain ⟨c6, hc6⟩ : ∃ c6 : Nat → Nat, c6 = fun j => if j ∈ FE then 1 else if j < S5.length then c5 j else 6 := ⟨_, rfl⟩
            have c6a : ∀ j, j < S5.length → j ∉ FE → c6 j = c5 j := fun j hj hn => by rw [hc6]; dsimp only; rw [if_neg hn, if_pos hj]
            have c6b : ∀ j ∈ FE, c6 j = 1 := fun j hj => by rw [hc6]; exact if_pos hj
            have c6c : c6 S5.length = 6 := by rw [hc6]; dsimp only; rw [if_neg (fun h => by have := (qcE _ h).1; omega), if_neg (by omega)]
            clear hc6
            have nid := E5.notin S5s.nM
            have e0b := E5.cell 0 (by omega)
            simp only [Nat.add_zero] at e0b
            have idE : ∀ j ∈ FE, j ≠ id5 := fun j hj e => by
              have h1 := (qcE j hj).2
              rw [e, (S5s.cM _ E5.mem).2] at h1
              omega
            obtain ⟨FMc, hSf⟩ := S5s.fill hk5l E5 (H' := Hf5) (cc' := setL (setL (setL cc5 (o5 + 1) [int cf, str tf, .slice none 0 0]) (o5 + 4) [.slice asv (senL ls).length zsv]) (o5 + 5) [.bool true]) (cs' := [str n, int cf, str tf, .slice none 0 0, .slice asv (senL ls).length zsv, .bool true]) (Fi' := FE) (m' := ⟨n, cf, tf, senL ls, true⟩) (c' := c6) (by omega) hfid (by simp [setL_size]) rfl (fun j hj => by
                rw [setL_get _ _ _ _ (by simp [setL_size]; omega), setL_get _ _ _ _ (by simp [setL_size]; omega), setL_get _ _ _ _ (by simp; omega)]
                rcases (show j = 0 ∨ j = 1 ∨ j = 2 ∨ j = 3 ∨ j = 4 ∨ j = 5 by omega) with h | h | h | h | h | h <;> subst h
                · simp [e0b, hname5, show ¬ (o5 + 5 ≤ o5) by omega, show ¬ (o5 + 4 ≤ o5) by omega, show ¬ (o5 + 1 ≤ o5) by omega]
                · simp
                · simp
                · simp
                · simp
                · simp) (fun j hj => by
                rw [setL_get _ _ _ _ (by simp [setL_size]; omega), setL_get _ _ _ _ (by simp [setL_size]; omega), setL_get _ _ _ _ (by simp; omega), if_neg (by simp; omega), if_neg (by simp; omega), if_neg (by simp; omega)])
              ⟨⟨by unfold okS; dsimp only; omega, by dsimp only; unfold i64; omega, by unfold okS; dsimp only; omega⟩, _, rfl, Rp.fr qsen fun j hj => hfo5 j (qcE j hj).1 (idE j hj)⟩ hfo5 (fun j hj h3 => c6a j hj (qcE.not (by omega))) (fun j hj => ⟨by have := (qcE j hj).1; omega, c6b j hj⟩) qnd (fun j hj => .inr (by rw [(qcE j hj).2]; decide))
            have hSg := hSf.stck (H' := Hc) (st' := .slice al way.length zl) (way' := way) (FT' := Flw) (c' := c6) (by omega) (fun _ _ => rfl) (fun j hj h1 h2 => by
                rcases Nat.lt_or_ge j S5.length with h | h
                · by_cases e : j = id5
                  · rw [e, hci, hfid]
                  · rw [hco j h h1 e, hfo5 j h e]
                · obtain rfl : j = S5.length := by omega
                  rw [hc8, hf58]) hck (Rp.fr hcw fun j hj => hco j (S5s.cT j (hsubw j hj)).1 (fun e => by have := (S5s.cT j (hsubw j hj)).2; rw [e, S5s.ck] at this; omega) (fun e => by have := (S5s.cT j (hsubw j hj)).2; rw [e, (S5s.cM _ E5.mem).2] at this; omega)) (hndw S5s.nT) (fun j hj => ⟨by have := (S5s.cT j (hsubw j hj)).1; omega, (c6a j (S5s.cT j (hsubw j hj)).1 (qcE.not (by rw [(S5s.cT j (hsubw j hj)).2]; decide))).trans (S5s.cT j (hsubw j hj)).2⟩)
            have kc := hSg.klt
            have lnd : (namesD ds').length = ds'.length := by simp [namesD]
            refine AppK.one (R := strR) (l := namesD ds') (ex := 9) (fx := (0, 0)) (ox := true) (base := 0) (x := n) (cx := [str n]) (Fx := []) slt24 und24 (Rp.ext hSg.ord (Ext.app _ _)) ⟨fun _ _ => Nat.zero_le _, hSg.nO⟩ (by simp [lc]) ⟨rfl, rfl, by unfold okS; omega⟩ (Fresh.nil _) (by simp) (Nat.zero_le _) (by omega) (by decide) ?_
            intro s10 H10 FO10 v1 v2 v3 v4 v5
            obtain ⟨a10, z10, rfl⟩ := v1.form
            simp only [List.length_append, List.length_cons, List.length_nil, Nat.zero_add] at v1 v3 v4 v5
            have hrE : H.length ∉ FE := fun h => by have := qge _ h; omega
            have crr : c6 H.length = 6 := (c6a _ (by omega) hrE).trans c5r
            have k10 : H10[k]? = _ := (v4 k (by omega) (hSg.cO.not (by rw [hSg.ck]; decide))).trans ((List.getElem?_append_left (by omega)).trans hSg.blk)
            have h108 : H10[S5.length]? = _ := (v4 _ (by omega) (hSg.cO.not (by rw [c6c]; decide))).trans ((List.getElem?_append_left (by omega)).trans hc8)
            have h10r : H10[H.length]? = _ := (v4 _ (by omega) (hSg.cO.not (by rw [crr]; decide))).trans ((List.getElem?_append_left (by omega)).trans ((hco _ (by omega) (Ne.symm kr) (Ne.symm id5r)).trans r5))
            have y8 : ∀ b : Blk, (H10.set k b)[S5.length]? = _ := fun b => (List.getElem?_set_ne (by omega)).trans h108
            have yr : ∀ b : Blk, (H10.set k b)[H.length]? = _ := fun b => (List.getElem?_set_ne kr).trans h10r
            have yf : ∀ b b' : Blk, ((H10.set k b).set H.length b')[H.length]? = some b' := fun b b' => List.getElem?_set_self (by simp; omega)
            simp +contextual (dsimp := false) [k10, y8, yr, yf]
            obtain ⟨Hf, hHf⟩ : ∃ Hf, Hf = H10.set k (⟨.cells (shpC (.slice a1 sp.sources.length z1) (.slice a2 sp.targets.length z2) (.slice am5 M5.length zm5) (.slice a10 ((namesD ds').length + 1) z10) (.slice al way.length zl) ⟨0, [], []⟩ (.slice none 0 0) false) 97 (0, 0), true, true⟩ : Blk) := ⟨_, rfl⟩
            have lf : Hf.length = H10.length := by rw [hHf]; simp
            have hfo : ∀ j, j ≠ k → Hf[j]? = H10[j]? := fun j hj => by rw [hHf]; exact List.getElem?_set_ne (Ne.symm hj)
            have hfk : Hf[k]? = some (⟨.cells (shpC (.slice a1 sp.sources.length z1) (.slice a2 sp.targets.length z2) (.slice am5 M5.length zm5) (.slice a10 ((namesD ds').length + 1) z10) (.slice al way.length zl) ⟨0, [], []⟩ (.slice none 0 0) false) 97 (0, 0), true, true⟩ : Blk) := by rw [hHf]; exact List.getElem?_set_self (by omega)
            rw [← hHf]
            clear hHf
            have hld := Rp.lt v1
            have nOk : ∀ j ∈ FO10, j ≠ k := fun j hj => by
              rcases v5 j hj with h | h | h
              · intro e
                have := (hSg.cO j h).2
                rw [e, hSg.ck] at this
                omega
              · cases h
              · omega
            have hSe := hSg.orde (H' := Hf) (so' := .slice a10 ((namesD ds').length + 1) z10) (ds' := ds' ++ [(⟨n, 3, cf, tf, tgtA sp n, ls⟩ : Deed)]) (FO' := FO10) (c' := cgrow c6 Hc.length 2) (by omega) (fun j hj => cgrow_lt hj) (fun j hj h1 h2 => (hfo j h1).trans ((v4 j (by omega) h2).trans (List.getElem?_append_left hj))) hfk (by
                rw [show namesD (ds' ++ [(⟨n, 3, cf, tf, tgtA sp n, ls⟩ : Deed)]) = namesD ds' ++ [n] by simp [namesD]]
                exact Rp.fr v1 fun j hj => hfo j (nOk j hj)) v2.2 (fun j hj => ⟨by have := hld j hj; omega, by
                rcases v5 j hj with h | h | h
                · exact (cgrow_lt (hSg.cO j h).1).trans (hSg.cO j h).2
                · cases h
                · exact cgrow_ge (by omega)⟩)
            have crf : cgrow c6 Hc.length 2 H.length = 6 := (cgrow_lt (by omega)).trans crr
            have cH : ∀ j, j < H.length → c6 j = c j := fun j hj => (c6a j (by omega) (fun h => by have := qge _ h; omega)).trans ((L5.col j (by omega)).trans ((cpa j (by omega)).trans (cba j hj)))
            have ml5 := L5.len
            refine ⟨by rw [dAt_app]; simp [resD], cgrow c6 Hc.length 2, _, ⟨by simp; omega, fun j hj => (cgrow_lt (by omega)).trans (cH j hj), fun j hj h3' => ?_, ⟨_, _, _, FMc, FO10, Flw, hSe.up (by simp) (fun j _ => rfl) fun j hj h3' => List.getElem?_set_ne (fun e => by rw [← e, crf] at h3'; omega)⟩, ?_, ?_, by simp at ml5 ⊢; omega⟩⟩
            · have jk : j ≠ k := fun e => by rw [e, hS.ck] at h3'; omega
              have h3b : 3 < cb j := by rw [cba j hj]; exact h3'
              have h3p : 3 < cgrow cb Hb.length 3 j := by rw [cpa j (by omega)]; exact h3b
              have ji : j ≠ id5 := fun e => by have := (S5s.cM _ E5.mem).2; rw [← e, L5.col j (by omega)] at this; omega
              rw [List.getElem?_set_ne (by omega), hfo j jk, v4 j (by omega) (hSg.cO.not (by rw [cH j hj]; omega)), List.getElem?_append_left (by omega), hco j (by omega) jk ji, L5.old j (by omega) h3p, hp3 j (by omega) h3b]
              exact ob j hj h3'
            · exact L5.ok.done hk5l (d := (⟨n, 3, cf, tf, tgtA sp n, ls⟩ : Deed)) hname5.symm hnn rfl
            · rw [namesM_set hk5l hname5.symm]
              exact nmb.trans L5.nam
end Go.Proofs.YtephpieeibcihaaGreatDoor

import Derived.Test.YtehhjbomdohgoaaDoorPri
import Derived.Test.YtehhjbomdohgoaaDoorAcc
import Derived.Test.YtehhjbomdohgoaaDoorLai
import Derived.Test.YtehhjbomdohgoaaDoorAccN
import Derived.Test.YtehhjbomdohgoaaDoorLSpc
/- Writing accounts: what is written. No condition. -/
set_option linter.unusedSimpArgs false
set_option linter.unusedVariables false
namespace Go.Am
open Go
theorem accOk_len' {ds : List Deed} (h : accOk ds = true) : ds.length ≤ 400 ∧ 1 ≤ ds.length := by
  simp only [accOk, decide_eq_true_eq] at h
  unfold checkAcc at h
  split at h
  · cases h
  · omega
theorem accOk_deeds' {ds : List Deed} (h : accOk ds = true) : ∀ i, i < ds.length → deedOk ds i (dAt ds i) = true := by
  simp only [accOk, decide_eq_true_eq] at h
  unfold checkAcc at h
  split at h
  · cases h
  · split at h
    · cases h
    · rename_i hn
      intro i hi
      have := firstI_no hn i hi
      simpa using this
def linkL (l : Lnk) : List UInt8 := if l.ask then ([97, 115, 107, 32] ++ l.name ++ [32]) ++ decN l.at_.toNat else ([104, 97, 115, 32] ++ l.name ++ [32]) ++ flagT l.has
def headL (d : Deed) : List UInt8 := (([116, 97, 114, 103, 101, 116, 32] ++ d.name ++ [32]) ++ decN d.code.toNat ++ [32]) ++ quoteL d.text
def doL (x : Ins) : List UInt8 := [100, 111, 32] ++ lineL x
def endL : List UInt8 := [101, 110, 100]
def deedLines (d : Deed) : List (List UInt8) :=
  if d.kind = 1 then [([115, 111, 117, 114, 99, 101, 32] ++ d.name ++ [32]) ++ quoteL d.text]
  else if d.kind = 2 then [[110, 111, 110, 101, 32] ++ d.name]
  else headL d :: (d.action.map doL ++ (d.links.map linkL ++ [endL]))
def joinN (ls : List (List UInt8)) : List UInt8 := ls.flatMap fun l => l ++ [10]
def accHead (n : Nat) : List UInt8 := [97, 99, 99, 111, 117, 110, 116, 32] ++ decN n ++ [10]
def formB (ds : List Deed) : List UInt8 := accHead ds.length ++ joinN (ds.flatMap deedLines)
def formAcc (ds : List Deed) : List UInt8 := if accOk ds then (if 300000 < (formB ds).length then [] else formB ds) else []
theorem joinN_app (a b : List (List UInt8)) : joinN (a ++ b) = joinN a ++ joinN b := by simp [joinN]
theorem joinN_one (a : List UInt8) : joinN [a] = a ++ [10] := by simp [joinN]
theorem joinN_cons (a : List UInt8) (l : List (List UInt8)) : joinN (a :: l) = a ++ [10] ++ joinN l := by simp [joinN]
theorem joinN_len {n : Nat} : ∀ {l : List (List UInt8)}, (∀ x ∈ l, x.length ≤ n) → (joinN l).length ≤ (n + 1) * l.length
  | [], _ => by simp [joinN]
  | x :: l, h => by
    have h1 := h x (by simp)
    have h2 := joinN_len (n := n) (l := l) fun y hy => h y (by simp [hy])
    rw [joinN_cons]
    simp only [List.length_append, List.length_cons, List.length_nil]
    rw [Nat.mul_add]
    omega
theorem deed_parts {ds : List Deed} {i : Nat} {d : Deed} (h : deedOk ds i d = true) : d.name.length ≤ 60 ∧ d.text.length ≤ 2000 ∧ (d.kind = 1 ∨ d.kind = 2 ∨ (d.kind = 3 ∧ 0 ≤ d.code ∧ d.code ≤ 5 ∧ validP d.action = true ∧ d.links.length ≤ 200 ∧ ∀ l ∈ d.links, l.name.length ≤ 60 ∧ (l.ask = true → 0 ≤ l.at_ ∧ l.at_ < i))) := by
  simp only [deedOk, Bool.and_eq_true, decide_eq_true_eq] at h
  obtain ⟨⟨h1, h2⟩, h3⟩ := h
  refine ⟨?_, h2, ?_⟩
  · simp only [nameOk, Bool.and_eq_true, decide_eq_true_eq] at h1
    exact h1.1.2
  by_cases k1 : d.kind = 1
  · exact .inl k1
  rw [if_neg k1] at h3
  by_cases k2 : d.kind = 2
  · exact .inr (.inl k2)
  rw [if_neg k2] at h3
  by_cases k3 : d.kind = 3
  · rw [if_pos k3] at h3
    simp only [Bool.and_eq_true, decide_eq_true_eq] at h3
    obtain ⟨⟨⟨⟨a1, a2⟩, a3⟩, a4⟩, a5⟩ := h3
    refine .inr (.inr ⟨k3, a1, a2, a3, a4, fun l hl => ?_⟩)
    have hl' := List.all_eq_true.1 a5 l hl
    simp only [linkOk, Bool.and_eq_true] at hl'
    obtain ⟨b1, b2⟩ := hl'
    refine ⟨?_, fun ha => ?_⟩
    · simp only [nameOk, Bool.and_eq_true, decide_eq_true_eq] at b1
      exact b1.1.2
    · rw [ha] at b2
      simp at b2
      exact ⟨b2.1.1.2, b2.1.2⟩
  · rw [if_neg k3] at h3
    cases h3
theorem linkL_len {l : Lnk} {i : Nat} (h : l.name.length ≤ 60) (hi : i ≤ 400) (ha : l.ask = true → 0 ≤ l.at_ ∧ l.at_ < i) : (linkL l).length ≤ 470 := by
  unfold linkL
  split
  · rename_i h1
    have := ha h1
    have := decN_len l.at_.toNat
    simp
    omega
  · have : (flagT l.has).length ≤ 1 := by unfold flagT; split <;> simp
    simp
    omega
theorem doL_len {x : Ins} (h : x.valid = true) : (doL x).length ≤ 6013 := by
  have := lineL_len h
  simp [doL]
  omega
theorem headL_len {d : Deed} (h1 : d.name.length ≤ 60) (h2 : d.text.length ≤ 2000) (h3 : d.code ≤ 5) : (headL d).length ≤ 6100 := by
  have := quoteL_len d.text
  have := decN_len d.code.toNat
  simp [headL]
  omega
theorem deedLines_len {ds : List Deed} {i : Nat} {d : Deed} (hi : i ≤ 400) (h : deedOk ds i d = true) : (joinN (deedLines d)).length ≤ 1400000 := by
  obtain ⟨h1, h2, h3⟩ := deed_parts h
  have hq := quoteL_len d.text
  unfold deedLines
  split
  · rw [joinN_one]; simp; omega
  · split
    · rw [joinN_one]; simp; omega
    · rename_i k1 k2
      rcases h3 with h3 | h3 | ⟨h3, h4, h5, h6, h7, h8⟩
      · exact absurd h3 k1
      · exact absurd h3 k2
      · have hv := validP_len h6
        have l1 := headL_len h1 h2 h5
        have l2 := joinN_len (n := 6013) (l := d.action.map doL) fun x hx => by
          obtain ⟨y, hy, rfl⟩ := List.mem_map.1 hx
          exact doL_len (validP_all h6 hy)
        have l3 := joinN_len (n := 470) (l := d.links.map linkL) fun x hx => by
          obtain ⟨y, hy, rfl⟩ := List.mem_map.1 hx
          exact linkL_len (h8 y hy).1 hi (h8 y hy).2
        rw [joinN_cons, joinN_app, joinN_app, joinN_one]
        simp only [List.length_append, List.length_map, List.length_cons, List.length_nil, endL] at l2 l3 ⊢
        omega
theorem formB_s {ds : List Deed} {i : Nat} (h : i < ds.length) : joinN ((ds.take (i + 1)).flatMap deedLines) = joinN ((ds.take i).flatMap deedLines) ++ joinN (deedLines ds[i]) := by
  rw [List.take_succ_eq_append_getElem h, List.flatMap_append, joinN_app]
  simp
theorem form_len {ds : List Deed} (h4 : ds.length ≤ 400) (h : ∀ i, (hi : i < ds.length) → deedOk ds i ds[i] = true) : ∀ i, i ≤ ds.length → (joinN ((ds.take i).flatMap deedLines)).length ≤ 1400000 * i
  | 0, _ => by simp [joinN]
  | i + 1, hi => by
    have h1 := form_len h4 h i (by omega)
    have h2 := deedLines_len (i := i) (by omega) (h i (by omega))
    rw [formB_s (by omega)]
    simp only [List.length_append]
    omega
theorem form_mono {ds : List Deed} (i : Nat) (h : i ≤ ds.length) : (accHead ds.length).length + (joinN ((ds.take i).flatMap deedLines)).length ≤ (formB ds).length := by
  have e : formB ds = accHead ds.length ++ (joinN ((ds.take i).flatMap deedLines) ++ joinN ((ds.drop i).flatMap deedLines)) := by
    unfold formB
    rw [← joinN_app, ← List.flatMap_append, List.take_append_drop]
  rw [e]
  simp only [List.length_append]
  omega
theorem accHead_len {n : Nat} (h : n ≤ 400) : (accHead n).length ≤ 500 := by
  have := decN_len n
  simp [accHead]
  omega
end Go.Am

/- impl.FormAccount. No condition. -/
set_option linter.unusedSimpArgs false
set_option linter.unusedVariables false
namespace Go.Proofs.YtehhjbomdohgoaaDoor
open Go Go.Am Go.Proofs
set_option maxRecDepth 20000
variable {ng : Nat}
set_option maxHeartbeats 4000000 in
theorem implForm_ac {own : Bool} {ds : List Deed} {sd : Value} {FD : List Nat} {H : Heap} (hs : DeedsR own H ds [sd] FD) (hW : WordsG gW H) (hP : P10 g10 H) (h0 : gW < ng) (h2 : g10 < ng) :
    AC Tryd.prog ng 29 [.agg #[sd]] H fun v S' => v = str (formAcc ds) ∧ S' = H := by
  obtain ⟨ad, zd, rfl⟩ := hs.form
  refine .flat (AC.go [(10, .take 0 <| .take 4 <| .take 1 <| .take 2 <| .take 3 <| .take 5 <| .one 6 [1] <| .take 7 <| .take 8 <| .one 9 [] <| .done), (13, .take 0 <| .take 4 <| .take 9 <| .take 1 <| .take 2 <| .take 3 <| .take 5 <| .take 10 <| .one 6 [1, 10] <| .take 7 <| .take 8 <| .one 11 [1] <| .take 12 <| .take 13 <| .one 14 [] <| .done), (24, .take 0 <| .take 4 <| .take 1 <| .take 2 <| .take 3 <| .take 5 <| .one 6 [1] <| .take 7 <| .take 8 <| .one 9 [] <| .done)] Tryd.func29 rfl Tryd.ntmps29 rfl ⟨mixed, by kernel_rfl⟩ ?_)
  simp +contextual (dsimp := false)
  refine CallK.fl ⟨_, Tryd.func63, rfl, rfl⟩ (accValid_ac (Rp.ext hs (Ext.app _ _))) ?_
  unfold formAcc
  cases hv : accOk ds with
  | false => simp +contextual (dsimp := false)
  | true =>
    obtain ⟨n400, n1⟩ := accOk_len' hv
    have hdk : ∀ i, (hi : i < ds.length) → deedOk ds i ds[i] = true := fun i hi => by rw [← dAt_lt hi]; exact accOk_deeds' hv i hi
    have hfl := form_len n400 hdk
    have hal := accHead_len n400
    have hdn := decN_len ds.length
    simp +contextual (dsimp := false)
    refine CallK.fl ⟨_, Tryd.func40, rfl, rfl⟩ (itoa_ac (n := ds.length) (by omega) (hP.ext (Ext.app _ _)) h2 (by omega)) ?_
    simp +contextual (dsimp := false)
    rw [bin_ladd (by simp; omega)]
    simp +contextual (dsimp := false)
    rw [bin_ladd (by simp; omega)]
    simp +contextual (dsimp := false)
    obtain ⟨H0, hH0⟩ : ∃ H0, H0 = H ++ [(⟨.cells #[.slice ad ds.length zd] 61 (0, 0), true, true⟩ : Blk), ⟨.cells #[.pointer none, .slice none 0 0] 88 (0, 0), true, true⟩] := ⟨_, rfl⟩
    have hx0 : Ext H H0 := by rw [hH0]; exact Ext.app _ _
    have hl0 : H0.length = H.length + 2 := by rw [hH0]; simp
    have hp0 : H0[H.length]? = some ⟨.cells #[.slice ad ds.length zd] 61 (0, 0), true, true⟩ := by rw [hH0]; simp
    have hb0 : BldR 88 5 H0 (H.length + 1) [] [] := ⟨.pointer none, .slice none 0 0, by rw [hH0]; simp, .inl ⟨rfl, rfl, rfl⟩, by simp, .inl rfl⟩
    rw [← hH0]
    clear hH0
    refine CallK.of ⟨_, Tryd.func49, rfl, rfl⟩ (writeString_ac hb0 (by simp; omega)) ?_
    rintro v S1 ⟨rfl, FB1, hb1, hl1, hfr1, hF1⟩
    have hp1 := (hfr1 H.length (by omega) (by omega) (by simp)).trans hp0
    have hx1 : Ext H S1 := fun j hj => (hfr1 j (by omega) (by omega) (by simp)).trans (hx0 j hj)
    replace hb1 : BldR 88 5 S1 (H.length + 1) (accHead ds.length) FB1 := by simpa [accHead] using hb1
    simp +contextual (dsimp := false) [goB_of hp1, hp1]
    refine LoopA.up (σ := Nat × Heap × List Nat) [3, 21, 22, 23] (fun i => [(23, int i.1)]) (fun i => i.2.1)
      (fun x => x.1 ≤ ds.length ∧ Ext H x.2.1 ∧ BldR 88 5 x.2.1 (H.length + 1) (accHead ds.length ++ joinN ((ds.take x.1).flatMap deedLines)) x.2.2 ∧ ∀ j ∈ x.2.2, H.length + 2 ≤ j) (fun i => ds.length - i.1) (0, S1, FB1) rfl ⟨by simp, hx1, by simpa [joinN] using hb1, fun j hj => (hF1 j hj).elim (fun h => by omega) (fun h => by cases h)⟩ ?_
    rintro ⟨i, hp, FB⟩ ⟨hi, hx, hb, hf⟩
    dsimp only at hi hx hb hf
    have hle := hx.le
    have hpi := hfl i hi
    simp +contextual (dsimp := false)
    refine ifA_dec (fun h3 => ?_) (fun h3 => ?_)
    · obtain ⟨id, o, c, e, f, ow, cs, Fi, E⟩ := SlR.get hs i h3
      obtain ⟨hok, sc, sk, F1, F2, rfl, rfl, hcode, hlink⟩ := E.rep
      obtain ⟨ac, zc, rfl⟩ := hcode.form
      obtain ⟨al, zl, rfl⟩ := hlink.form
      obtain ⟨e1, e2, e3⟩ := deed_parts (hdk i h3)
      have hdl := deedLines_len (i := i) (by omega) (hdk i h3)
      have hmono := form_mono (ds := ds) (i + 1) (by omega)
      rw [formB_s h3] at hmono
      have hq := quoteL_len ds[i].text
      have hEb := (hx id E.lt).trans E.blk
      have hElt : id < hp.length := by have := E.lt; omega
      simp +contextual (dsimp := false) [E.idx, goB_of hEb, hEb, E.le, hElt, E.ext]
      obtain ⟨HX, hHX⟩ : ∃ HX, HX = hp ++ [(⟨.cells #[.string ⟨⟨ds[i].name⟩⟩, .int .i64 ds[i].kind, .int .i64 ds[i].code, .string ⟨⟨ds[i].text⟩⟩, .slice ac ds[i].action.length zc, .slice al ds[i].links.length zl] 113 (0, 0), true, true⟩ : Blk)] := ⟨_, rfl⟩
      have hxX : HX[hp.length]? = some ⟨.cells #[.string ⟨⟨ds[i].name⟩⟩, .int .i64 ds[i].kind, .int .i64 ds[i].code, .string ⟨⟨ds[i].text⟩⟩, .slice ac ds[i].action.length zc, .slice al ds[i].links.length zl] 113 (0, 0), true, true⟩ := by rw [hHX]; simp
      have hXe : Ext hp HX := by rw [hHX]; exact Ext.app _ _
      have hXl : HX.length = hp.length + 1 := by rw [hHX]; simp
      have hbX := hb.ext hXe
      have hxx := hx.trans hXe
      have hblt := hb.lt
      rw [← hHX]
      clear hHX
      generalize hda : ds[i] = d at *
      refine ifA_dec (fun k1 => ?_) (fun k1 => ?_)
      · simp +contextual (dsimp := false) (disch := first | (simp; done) | (simp; omega)) [bin_ladd, goB_of hxX, hxX]
        refine CallK.fl ⟨_, Tryd.func64, rfl, rfl⟩ (quote_ac d.text (by omega) _) ?_
        simp +contextual (dsimp := false) (disch := first | (simp; done) | (simp; omega)) [bin_ladd, goB_of hxX, hxX]
        refine CallK.of ⟨_, Tryd.func49, rfl, rfl⟩ (writeString_ac hbX (by simp; omega)) ?_
        rintro v S2 ⟨rfl, F2', hb2, hl2, hfr2, hF2⟩
        simp +contextual (dsimp := false) [wrap_succ (show i < 9223372036854775807 by omega)]
        refine LoopN.of (i + 1, S2, F2') rfl ⟨h3, fun j hj => (hfr2 j (by omega) (by omega) (fun hm => by have := hf j hm; omega)).trans (hxx j hj), ?_, fun j hj => (hF2 j hj).elim (fun h => by omega) (hf j)⟩ (by dsimp only; omega)
        dsimp only
        rw [formB_s h3, hda, show joinN (deedLines d) = ([115, 111, 117, 114, 99, 101, 32] ++ d.name ++ [32]) ++ quoteL d.text ++ [10] by simp [deedLines, k1, joinN], ← List.append_assoc]
        simpa using hb2
      · refine ifA_dec (fun k2 => ?_) (fun k2 => ?_)
        · simp +contextual (dsimp := false) (disch := first | (simp; done) | (simp; omega)) [bin_ladd, goB_of hxX, hxX]
          refine CallK.of ⟨_, Tryd.func49, rfl, rfl⟩ (writeString_ac hbX (by simp; omega)) ?_
          rintro v S2 ⟨rfl, F2', hb2, hl2, hfr2, hF2⟩
          simp +contextual (dsimp := false) [wrap_succ (show i < 9223372036854775807 by omega)]
          refine LoopN.of (i + 1, S2, F2') rfl ⟨h3, fun j hj => (hfr2 j (by omega) (by omega) (fun hm => by have := hf j hm; omega)).trans (hxx j hj), ?_, fun j hj => (hF2 j hj).elim (fun h => by omega) (hf j)⟩ (by dsimp only; omega)
          dsimp only
          rw [formB_s h3, hda, show joinN (deedLines d) = [110, 111, 110, 101, 32] ++ d.name ++ [10] by simp [deedLines, k2, joinN], ← List.append_assoc]
          simpa using hb2
        · obtain ⟨k3, c1, c2, c3, c4, c5⟩ : d.kind = 3 ∧ 0 ≤ d.code ∧ d.code ≤ 5 ∧ validP d.action = true ∧ d.links.length ≤ 200 ∧ ∀ l ∈ d.links, l.name.length ≤ 60 ∧ (l.ask = true → 0 ≤ l.at_ ∧ l.at_ < i) := by
            rcases e3 with h | h | h
            · exact absurd h k1
            · exact absurd h k2
            · exact h
          have hcn := decN_len d.code.toNat
          have hct : d.code.toNat ≤ 5 := by omega
          simp +contextual (dsimp := false) (disch := first | (simp; done) | (simp; omega)) [bin_ladd, goB_of hxX, hxX]
          refine CallK.fl ⟨_, Tryd.func40, rfl, rfl⟩ (itoa_ac (n := d.code.toNat) (by omega) (hP.ext hxx) h2 (by omega)) ?_
          simp +contextual (dsimp := false) (disch := first | (simp; done) | (simp; omega)) [bin_ladd, goB_of hxX, hxX]
          refine CallK.fl ⟨_, Tryd.func64, rfl, rfl⟩ (quote_ac d.text (by omega) _) ?_
          simp +contextual (dsimp := false) (disch := first | (simp; done) | (simp; omega)) [bin_ladd, goB_of hxX, hxX]
          obtain ⟨base, hbase⟩ : ∃ b, b = accHead ds.length ++ joinN ((ds.take i).flatMap deedLines) := ⟨_, rfl⟩
          rw [← hbase] at hbX
          have hbl : base.length ≤ 560000500 := by rw [hbase]; simp; omega
          have hcv := validP_len c3
          have hL1 : ∀ j, (joinN (headL d :: (d.action.take j).map doL)).length ≤ 1400000 := fun j => by
            have e : deedLines d = (headL d :: (d.action.take j).map doL) ++ ((d.action.drop j).map doL ++ (d.links.map linkL ++ [endL])) := by
              have e0 : d.action.map doL = (d.action.take j).map doL ++ (d.action.drop j).map doL := by rw [← List.map_append, List.take_append_drop]
              rw [deedLines, if_neg k1, if_neg k2, e0]
              simp only [List.cons_append, List.append_assoc]
            rw [e, joinN_app] at hdl
            simp only [List.length_append] at hdl
            omega
          have hL2 : ∀ j, (joinN (headL d :: (d.action.map doL ++ (d.links.take j).map linkL))).length ≤ 1400000 := fun j => by
            have e : deedLines d = (headL d :: (d.action.map doL ++ (d.links.take j).map linkL)) ++ ((d.links.drop j).map linkL ++ [endL]) := by
              have e0 : d.links.map linkL = (d.links.take j).map linkL ++ (d.links.drop j).map linkL := by rw [← List.map_append, List.take_append_drop]
              rw [deedLines, if_neg k1, if_neg k2, e0]
              simp only [List.cons_append, List.append_assoc]
            rw [e, joinN_app] at hdl
            simp only [List.length_append] at hdl
            omega
          refine CallK.of ⟨_, Tryd.func49, rfl, rfl⟩ (writeString_ac hbX (by simp; omega)) ?_
          rintro v S2 ⟨rfl, F2', hb2, hl2, hfr2, hF2⟩
          have hx2 : Ext H S2 := fun j hj => (hfr2 j (by omega) (by omega) (fun hm => by have := hf j hm; omega)).trans (hxx j hj)
          have hxd2 := (hfr2 hp.length (by omega) (by omega) (fun hm => by have := hblt.2 _ hm; omega)).trans hxX
          have hF2n : ∀ j ∈ F2', H.length + 2 ≤ j ∧ j ≠ hp.length := fun j hj => (hF2 j hj).elim (fun h => ⟨by omega, by omega⟩) (fun h => ⟨hf j h, by have := hblt.2 _ h; omega⟩)
          replace hb2 : BldR 88 5 S2 (H.length + 1) (base ++ joinN (headL d :: (d.action.take 0).map doL)) F2' := by simpa [headL, joinN] using hb2
          simp +contextual (dsimp := false) [goB_of hxd2, hxd2]
          refine LoopA.up (σ := Nat × Heap × List Nat) [3, 5, 21, 22, 23, 65, 66, 67] (fun x => [(67, int x.1)]) (fun x => x.2.1)
            (fun x => x.1 ≤ d.action.length ∧ Ext H x.2.1 ∧ hp.length + 1 ≤ x.2.1.length ∧ x.2.1[hp.length]? = S2[hp.length]? ∧ BldR 88 5 x.2.1 (H.length + 1) (base ++ joinN (headL d :: (d.action.take x.1).map doL)) x.2.2 ∧ ∀ j ∈ x.2.2, H.length + 2 ≤ j ∧ j ≠ hp.length) (fun x => d.action.length - x.1) (0, S2, F2') rfl ⟨by simp, hx2, by dsimp only; omega, rfl, hb2, hF2n⟩ ?_
          rintro ⟨q, hq, FQ⟩ ⟨gq, gx, gl, gd, gb, gf⟩
          dsimp only at gq gx gl gd gb gf
          have gle := gx.le
          have hLq := hL1 q
          simp +contextual (dsimp := false)
          refine ifA_dec (fun h4 => ?_) (fun h4 => ?_)
          · obtain ⟨id5, o5, c5', e5, f5, ow5, cs5, Fi5, E5⟩ := SlR.get (Rp.ext hcode gx) q h4
            obtain ⟨rfl, rfl, hok5⟩ := E5.rep
            have hvq := validP_all c3 (List.getElem_mem h4)
            have hlq := lineL_len hvq
            simp +contextual (dsimp := false) [E5.idx, E5.goB, E5.le, E5.lt, E5.ext, Ins.c]
            refine CallK.fl ⟨_, Tryd.func50, rfl, rfl⟩ (line_ac hvq (hW.ext (gx.trans (Ext.app _ _))) (hP.ext (gx.trans (Ext.app _ _))) h0 h2) ?_
            simp +contextual (dsimp := false) (disch := first | (simp; done) | (simp; omega)) [bin_ladd]
            refine CallK.of ⟨_, Tryd.func49, rfl, rfl⟩ (writeString_ac (gb.ext (Ext.app _ _)) (by simp only [List.length_append, List.length_cons, List.length_nil]; omega)) ?_
            rintro v S3 ⟨rfl, F3, hb3, hl3, hfr3, hF3⟩
            simp only [List.length_append, List.length_singleton] at hl3 hfr3 hF3
            have gblt := gb.lt
            simp +contextual (dsimp := false) [wrap_succ (show q < 9223372036854775807 by omega)]
            refine LoopN.of (q + 1, S3, F3) rfl ⟨h4, fun j hj => (hfr3 j (by omega) (by omega) (fun hm => by have := gf j hm; omega)).trans ((get_ext (by omega)).trans (gx j hj)), by dsimp only; omega, ?_, ?_, fun j hj => (hF3 j hj).elim (fun h => ⟨by omega, by omega⟩) (gf j)⟩ (by dsimp only; omega)
            · exact (hfr3 _ (by omega) (by omega) (fun hm => (gf _ hm).2 rfl)).trans ((get_ext (by omega)).trans gd)
            · dsimp only
              rw [List.take_succ_eq_append_getElem h4, List.map_append, ← List.cons_append, joinN_app, ← List.append_assoc]
              simpa [doL, joinN] using hb3
          · obtain rfl : q = d.action.length := by omega
            rw [List.take_length] at gb
            have gxd := gd.trans hxd2
            simp +contextual (dsimp := false) [goB_of gxd, gxd]
            refine LoopA.up (σ := Nat × Heap × List Nat) [3, 21, 22, 23, 78, 79, 80] (fun x => [(80, int x.1)]) (fun x => x.2.1)
              (fun x => x.1 ≤ d.links.length ∧ Ext H x.2.1 ∧ BldR 88 5 x.2.1 (H.length + 1) (base ++ joinN (headL d :: (d.action.map doL ++ (d.links.take x.1).map linkL))) x.2.2 ∧ ∀ j ∈ x.2.2, H.length + 2 ≤ j) (fun x => d.links.length - x.1) (0, hq, FQ) rfl ⟨by simp, gx, by simpa using gb, fun j hj => (gf j hj).1⟩ ?_
            rintro ⟨r, hr, FR⟩ ⟨tr, tx, tb, tf⟩
            dsimp only at tr tx tb tf
            have tle := tx.le
            have hLr := hL2 r
            simp +contextual (dsimp := false)
            refine ifA_dec (fun h5 => ?_) (fun h5 => ?_)
            · obtain ⟨id6, o6, c6, e6, f6, ow6, cs6, Fi6, E6⟩ := SlR.get (Rp.ext hlink tx) r h5
              obtain ⟨rfl, rfl, hok6⟩ := E6.rep
              have hlk := c5 d.links[r] (List.getElem_mem h5)
              simp +contextual (dsimp := false) [E6.idx, E6.goB, E6.le, E6.lt, E6.ext, Lnk.c]
              have tblt := tb.lt
              generalize hla : d.links[r] = l at *
              obtain ⟨ln, la, lh, lt⟩ := l
              dsimp only at hlk ⊢
              cases la with
              | true =>
                obtain ⟨m1, m2⟩ := hlk.2 rfl
                have hcn := decN_len lt.toNat
                have hlt4 : lt.toNat ≤ 400 := by omega
                simp +contextual (dsimp := false) (disch := first | (simp; done) | (simp; omega)) [bin_ladd]
                refine CallK.fl ⟨_, Tryd.func40, rfl, rfl⟩ (itoa_ac (n := lt.toNat) (by omega) (hP.ext (tx.trans (Ext.app _ _))) h2 (by omega)) ?_
                simp +contextual (dsimp := false) (disch := first | (simp; done) | (simp; omega)) [bin_ladd]
                refine CallK.of ⟨_, Tryd.func49, rfl, rfl⟩ (writeString_ac (tb.ext (Ext.app _ _)) (by simp only [List.length_append, List.length_cons, List.length_nil]; omega)) ?_
                rintro v S5 ⟨rfl, F5, hb5, hl5, hfr5, hF5⟩
                simp only [List.length_append, List.length_singleton] at hl5 hfr5 hF5
                simp +contextual (dsimp := false) [wrap_succ (show r < 9223372036854775807 by omega)]
                refine LoopN.of (r + 1, S5, F5) rfl ⟨h5, fun j hj => (hfr5 j (by omega) (by omega) (fun hm => by have := tf j hm; omega)).trans ((get_ext (by omega)).trans (tx j hj)), ?_, fun j hj => (hF5 j hj).elim (fun h => by omega) (tf j)⟩ (by dsimp only; omega)
                dsimp only
                rw [List.take_succ_eq_append_getElem h5, hla, List.map_append, ← List.append_assoc, ← List.cons_append, joinN_app, ← List.append_assoc]
                simpa [linkL, joinN] using hb5
              | false =>
                cases lh with
                | true =>
                  simp +contextual (dsimp := false) (disch := first | (simp; done) | (simp; omega)) [bin_ladd]
                  refine CallK.of ⟨_, Tryd.func49, rfl, rfl⟩ (writeString_ac (tb.ext (Ext.app _ _)) (by simp only [List.length_append, List.length_cons, List.length_nil]; omega)) ?_
                  rintro v S5 ⟨rfl, F5, hb5, hl5, hfr5, hF5⟩
                  simp only [List.length_append, List.length_singleton] at hl5 hfr5 hF5
                  simp +contextual (dsimp := false) [wrap_succ (show r < 9223372036854775807 by omega)]
                  refine LoopN.of (r + 1, S5, F5) rfl ⟨h5, fun j hj => (hfr5 j (by omega) (by omega) (fun hm => by have := tf j hm; omega)).trans ((get_ext (by omega)).trans (tx j hj)), ?_, fun j hj => (hF5 j hj).elim (fun h => by omega) (tf j)⟩ (by dsimp only; omega)
                  dsimp only
                  rw [List.take_succ_eq_append_getElem h5, hla, List.map_append, ← List.append_assoc, ← List.cons_append, joinN_app, ← List.append_assoc]
                  simpa [linkL, joinN, flagT] using hb5
                | false =>
                  simp +contextual (dsimp := false) (disch := first | (simp; done) | (simp; omega)) [bin_ladd]
                  refine CallK.of ⟨_, Tryd.func49, rfl, rfl⟩ (writeString_ac (tb.ext (Ext.app _ _)) (by simp only [List.length_append, List.length_cons, List.length_nil]; omega)) ?_
                  rintro v S5 ⟨rfl, F5, hb5, hl5, hfr5, hF5⟩
                  simp only [List.length_append, List.length_singleton] at hl5 hfr5 hF5
                  simp +contextual (dsimp := false) [wrap_succ (show r < 9223372036854775807 by omega)]
                  refine LoopN.of (r + 1, S5, F5) rfl ⟨h5, fun j hj => (hfr5 j (by omega) (by omega) (fun hm => by have := tf j hm; omega)).trans ((get_ext (by omega)).trans (tx j hj)), ?_, fun j hj => (hF5 j hj).elim (fun h => by omega) (tf j)⟩ (by dsimp only; omega)
                  dsimp only
                  rw [List.take_succ_eq_append_getElem h5, hla, List.map_append, ← List.append_assoc, ← List.cons_append, joinN_app, ← List.append_assoc]
                  simpa [linkL, joinN, flagT] using hb5
            · have tblt0 := tb.lt.1
              obtain rfl : r = d.links.length := by omega
              rw [List.take_length] at tb hLr
              refine CallK.of ⟨_, Tryd.func49, rfl, rfl⟩ (writeString_ac (r := [101, 110, 100, 10]) tb (by simp only [List.length_append, List.length_cons, List.length_nil]; omega)) ?_
              rintro v S4 ⟨rfl, F4, hb4, hl4, hfr4, hF4⟩
              have e4 : base ++ joinN (headL d :: (d.action.map doL ++ d.links.map linkL)) ++ [101, 110, 100, 10] = base ++ joinN (deedLines d) := by
                rw [deedLines, if_neg k1, if_neg k2]
                simp [joinN, endL]
              rw [e4] at hb4
              simp +contextual (dsimp := false)
              refine CallK.fl ⟨_, Tryd.func65, rfl, rfl⟩ (builderLen_ac hb4) ?_
              have hx4 : Ext H S4 := fun j hj => (hfr4 j (by omega) (by omega) (fun hm => by have := tf j hm; omega)).trans (tx j hj)
              have ebl : base.length = (accHead ds.length).length + (joinN ((ds.take i).flatMap deedLines)).length := by rw [hbase]; simp
              by_cases hbig : 300000 < (base ++ joinN (deedLines d)).length
              · simp only [List.length_append] at hbig
                have hbig' : (300000 : Int) < (base.length : Int) + ((joinN (deedLines d)).length : Int) := by omega
                have hfin : 300000 < (formB ds).length := by
                  simp only [List.length_append] at hmono
                  omega
                simp +contextual (dsimp := false) [hbig', hfin]
                exact hx4
              · simp only [List.length_append] at hbig
                have hbig' : ¬ (300000 : Int) < (base.length : Int) + ((joinN (deedLines d)).length : Int) := by omega
                simp +contextual (dsimp := false) [hbig', wrap_succ (show i < 9223372036854775807 by omega)]
                refine LoopN.of (i + 1, S4, F4) rfl ⟨h3, hx4, ?_, fun j hj => (hF4 j hj).elim (fun h => by omega) (tf j)⟩ (by dsimp only; omega)
                dsimp only
                rw [formB_s h3, hda, ← List.append_assoc, ← hbase]
                exact hb4
    · rw [List.take_of_length_le (show ds.length ≤ i by omega)] at hb
      have hfb : accHead ds.length ++ joinN (ds.flatMap deedLines) = formB ds := rfl
      rw [hfb] at hb
      refine CallK.fl ⟨_, Tryd.func65, rfl, rfl⟩ (builderLen_ac hb) ?_
      by_cases hbig : 300000 < (formB ds).length
      · have hbig' : (300000 : Int) < (formB ds).length := by omega
        simp +contextual (dsimp := false) [hbig, hbig']
        exact hx
      · have hbig' : ¬ (300000 : Int) < (formB ds).length := by omega
        simp +contextual (dsimp := false) [hbig']
        refine CallK.of ⟨_, Tryd.func51, rfl, rfl⟩ (builderString_ac hb (by omega)) ?_
        rintro v S' ⟨rfl, hl', hfr'⟩
        simp +contextual (dsimp := false) [hbig]
        exact fun j hj => (hfr' j (fun hm => by have := hf j hm; omega)).trans (hx j hj)
end Go.Proofs.YtehhjbomdohgoaaDoor

/- spec.FormAccount. No condition. -/
set_option linter.unusedSimpArgs false
set_option linter.unusedVariables false
namespace Go.Proofs.YtehhjbomdohgoaaDoor
open Go Go.Am Go.Proofs
set_option maxRecDepth 20000
variable {ng : Nat}
theorem plain_end6 {H : Heap} {b0 : Blk} {l : List (List UInt8)} {e : TypeId} (h : ∀ x ∈ l, x.length ≤ 100000) (hl : l.length ≤ 100) :
    ∃ x, StrsR true (H ++ [b0, (⟨.cells (l.map fun s => Value.string ⟨⟨s⟩⟩).toArray e (0, 0), true, true⟩ : Blk)]) l [.slice (some ⟨H.length + 1, 0, none⟩) l.length 1] x ∧ Fresh H.length x :=
  ⟨[H.length + 1], SlR.lit (j := H.length + 1) (c := l.map fun s => Value.string ⟨⟨s⟩⟩) (e := e) (f := (0, 0)) (o := true) (G := []) (by simp) (rep_strs fun x hx => by have := h x hx; unfold okS; omega) (by omega) (fun _ => rfl), Fresh.one (by omega)⟩
theorem l1Flag6_ac (b : Bool) (H : Heap) : AC Tryd.prog ng 91 [.bool b] H fun v S' => v = str (flagT b) ∧ S' = H := by
  refine .flat (AC.go [] Tryd.func91 rfl Tryd.ntmps91 rfl ⟨mixed, by kernel_rfl⟩ ?_)
  cases b <;> simp +contextual (dsimp := false) <;> rfl
set_option maxHeartbeats 4000000 in
theorem l6Deed_ac {own : Bool} {ds : List Deed} {i : Nat} {d : Deed} {c : List Value} {FD : List Nat} {H : Heap} (hs : DeedR own H d c FD) (hi : i ≤ 400) (hd : deedOk ds i d = true) :
    AC Tryd.prog ng 61 [.agg c.toArray] H fun v S' => ∃ F', Ext H S' ∧ StrsR true S' (deedLines d) [v] F' ∧ Fresh H.length F' := by
  obtain ⟨hok, sc, sk, F1, F2, rfl, rfl, hcode, hlink⟩ := hs
  obtain ⟨ac, zc, rfl⟩ := hcode.form
  obtain ⟨al, zl, rfl⟩ := hlink.form
  obtain ⟨e1, e2, e3⟩ := deed_parts hd
  have hq := quoteL_len d.text
  refine AC.go [(3, .take 0 <| .take 4 <| .take 1 <| .take 2 <| .take 3 <| .take 5 <| .one 6 [1] <| .take 7 <| .one 8 [] <| .take 9 <| .done), (6, .take 0 <| .take 4 <| .take 9 <| .take 1 <| .take 2 <| .take 3 <| .take 5 <| .take 10 <| .one 6 [1, 10] <| .take 7 <| .take 8 <| .one 11 [1] <| .take 12 <| .one 13 [] <| .take 14 <| .done), (16, .take 0 <| .take 1 <| .take 5 <| .take 2 <| .take 3 <| .take 4 <| .take 6 <| .one 7 [2] <| .take 8 <| .one 9 [] <| .one 10 [] <| .take 11 <| .done), (17, .take 0 <| .take 1 <| .take 5 <| .take 2 <| .take 3 <| .take 4 <| .take 6 <| .one 7 [2] <| .take 8 <| .one 9 [] <| .one 10 [] <| .take 11 <| .done)] Tryd.func61 rfl Tryd.ntmps61 rfl ⟨mixed, by kernel_rfl⟩ ?_
  simp +contextual (dsimp := false)
  refine ifA_dec (fun k1 => ?_) (fun k1 => ?_)
  · simp +contextual (dsimp := false) (disch := first | (simp; done) | (simp; omega)) [bin_ladd]
    refine CallK.fl ⟨_, Tryd.func77, rfl, rfl⟩ (l1Quote_ac d.text (by omega) _) ?_
    simp +contextual (dsimp := false) (disch := first | (simp; done) | (simp; omega)) [bin_ladd]
    rw [show deedLines d = [115 :: 111 :: 117 :: 114 :: 99 :: 101 :: 32 :: (d.name ++ 32 :: quoteL d.text)] by simp [deedLines, k1]]
    exact plain_end6 (l := [115 :: 111 :: 117 :: 114 :: 99 :: 101 :: 32 :: (d.name ++ 32 :: quoteL d.text)]) (by simp; omega) (by simp)
  · refine ifA_dec (fun k2 => ?_) (fun k2 => ?_)
    · simp +contextual (dsimp := false) (disch := first | (simp; done) | (simp; omega)) [bin_ladd]
      rw [show deedLines d = [[110, 111, 110, 101, 32] ++ d.name] by simp [deedLines, k1, k2]]
      exact plain_end6 (l := [[110, 111, 110, 101, 32] ++ d.name]) (by simp; omega) (by simp)
    · obtain ⟨k3, c1, c2, c3, c4, c5⟩ : d.kind = 3 ∧ 0 ≤ d.code ∧ d.code ≤ 5 ∧ validP d.action = true ∧ d.links.length ≤ 200 ∧ ∀ l ∈ d.links, l.name.length ≤ 60 ∧ (l.ask = true → 0 ≤ l.at_ ∧ l.at_ < i) := by
        rcases e3 with h | h | h
        · exact absurd h k1
        · exact absurd h k2
        · exact h
      have hcn := decN_len d.code.toNat
      have hct : d.code.toNat ≤ 5 := by omega
      simp +contextual (dsimp := false) (disch := first | (simp; done) | (simp; omega)) [bin_ladd]
      refine CallK.fl ⟨_, Tryd.func41, rfl, rfl⟩ (l1Dec_ac (d.code.toNat + 1) d.code.toNat (by omega) (by omega) _ (by omega) _) ?_
      simp +contextual (dsimp := false) (disch := first | (simp; done) | (simp; omega)) [bin_ladd]
      refine CallK.fl ⟨_, Tryd.func77, rfl, rfl⟩ (l1Quote_ac d.text (by omega) _) ?_
      simp +contextual (dsimp := false) (disch := first | (simp; done) | (simp; omega)) [bin_ladd]
      obtain ⟨HX, hHX⟩ : ∃ HX, HX = H ++ [(⟨.cells #[.string ⟨⟨d.name⟩⟩, .int .i64 d.kind, .int .i64 d.code, .string ⟨⟨d.text⟩⟩, .slice ac d.action.length zc, .slice al d.links.length zl] 113 (0, 0), true, true⟩ : Blk)] := ⟨_, rfl⟩
      have hxX : HX[H.length]? = some ⟨.cells #[.string ⟨⟨d.name⟩⟩, .int .i64 d.kind, .int .i64 d.code, .string ⟨⟨d.text⟩⟩, .slice ac d.action.length zc, .slice al d.links.length zl] 113 (0, 0), true, true⟩ := by rw [hHX]; simp
      have hXe : Ext H HX := by rw [hHX]; exact Ext.app _ _
      have hXl : HX.length = H.length + 1 := by rw [hHX]; simp
      have hcv := validP_len c3
      have hhl := headL_len e1 e2 c2
      obtain ⟨T, hT⟩ : ∃ T, T = (⟨.cells [Value.string ⟨⟨headL d⟩⟩].toArray 9 (0, 0), true, true⟩ : Blk) := ⟨_, rfl⟩
      have hr0 : StrsR true (HX ++ [T]) (headL d :: (d.action.take 0).map doL) [.slice (some ⟨H.length + 1, 0, none⟩) 1 1] [H.length + 1] := by
        rw [hT]
        exact SlR.lit (j := H.length + 1) (l := [headL d]) (c := [Value.string ⟨⟨headL d⟩⟩]) (e := 9) (f := (0, 0)) (o := true) (G := []) (by rw [← hXl]; simp) (rep_strs (l := [headL d]) fun x hx => by
          obtain rfl : x = headL d := by simpa using hx
          unfold okS; omega) (by simp) (fun _ => rfl)
      refine LoopA.up (σ := Nat × Heap × Value × List Nat) [1, 3, 4] (fun x => [(3, x.2.2.1), (4, int x.1)]) (fun x => x.2.1)
        (fun x => x.1 ≤ d.action.length ∧ Ext HX x.2.1 ∧ StrsR true x.2.1 (headL d :: (d.action.take x.1).map doL) [x.2.2.1] x.2.2.2 ∧ Fresh (H.length + 1) x.2.2.2) (fun x => d.action.length - x.1) (0, HX ++ [T], .slice (some ⟨H.length + 1, 0, none⟩) 1 1, [H.length + 1]) ?_ ⟨by simp, Ext.app _ _, hr0, Fresh.one (Nat.le_refl _)⟩ ?_
      · rw [hT, hHX]
        simp [headL]
      rintro ⟨q, hp, sv, FB⟩ ⟨gq, gx, gr, gf⟩
      dsimp only at gq gx gr gf
      have gle := gx.le
      have gxd := (gx H.length (by omega)).trans hxX
      obtain ⟨a3, z3, rfl⟩ := gr.form
      rw [List.length_cons, List.length_map, List.length_take] at gr
      simp +contextual (dsimp := false) [goB_of gxd, gxd]
      refine ifA_dec (fun h4 => ?_) (fun h4 => ?_)
      · obtain ⟨id5, o5, c5', e5, f5, ow5, cs5, Fi5, E5⟩ := SlR.get (Rp.ext hcode (hXe.trans gx)) q h4
        obtain ⟨rfl, rfl, hok5⟩ := E5.rep
        have hvq := validP_all c3 (List.getElem_mem h4)
        have hlq := lineL_len hvq
        have hdq := doL_len hvq
        simp +contextual (dsimp := false) [E5.idx, E5.goB, E5.le, E5.lt, E5.ext, Ins.c]
        refine CallK.fl ⟨_, Tryd.func46, rfl, rfl⟩ (l1Line_ac hvq) ?_
        simp +contextual (dsimp := false) (disch := first | (simp; done) | (simp; omega)) [bin_ladd]
        refine AppK.one (R := strR) (ex := 9) (fx := (0, 0)) (ox := true) (base := H.length + 1) (x := doL d.action[q]) (cx := [.string ⟨⟨doL d.action[q]⟩⟩]) (Fx := []) slt23 und23 (Rp.ext gr (Ext.app _ _)) gf (by simp [doL, linkL]) ⟨rfl, rfl, by unfold okS; omega⟩ (Fresh.nil _) (by simp) (by simp; omega) (by simp only [List.length_cons, List.length_append, List.length_map, List.length_take]; omega) (by decide) ?_
        intro s1 H1 F1 q1 q2 q3 q4 q5
        simp only [List.length_append, List.length_singleton] at q3 q4
        simp +contextual (dsimp := false) [wrap_succ (show q < 9223372036854775807 by omega)]
        refine LoopN.of (q + 1, H1, s1, F1) rfl ⟨h4, fun j hj => (q4 j (by omega) (fun hm => by have := gf.1 j hm; omega)).trans ((get_ext (by omega)).trans (gx j hj)), ?_, q2⟩ (by dsimp only; omega)
        dsimp only
        rw [List.take_succ_eq_append_getElem h4, List.map_append, ← List.cons_append]
        exact q1
      · obtain rfl : q = d.action.length := by omega
        have gmin : min d.action.length d.action.length = d.action.length := Nat.min_self _
        rw [List.take_length, gmin] at gr
        refine LoopA.up (σ := Nat × Heap × Value × List Nat) [1, 3, 5] (fun x => [(3, x.2.2.1), (5, int x.1)]) (fun x => x.2.1)
          (fun x => x.1 ≤ d.links.length ∧ Ext HX x.2.1 ∧ StrsR true x.2.1 (headL d :: (d.action.map doL ++ (d.links.take x.1).map linkL)) [x.2.2.1] x.2.2.2 ∧ Fresh (H.length + 1) x.2.2.2) (fun x => d.links.length - x.1) (0, hp, .slice a3 (d.action.length + 1) z3, FB) (by simp) ⟨by simp, gx, by simpa using gr, gf⟩ ?_
        rintro ⟨r, hr, sv2, FR⟩ ⟨tr, tx, tt, tf⟩
        dsimp only at tr tx tt tf
        have tle := tx.le
        have txd := (tx H.length (by omega)).trans hxX
        obtain ⟨a4, z4, rfl⟩ := tt.form
        rw [List.length_cons, List.length_append, List.length_map, List.length_map, List.length_take] at tt
        simp +contextual (dsimp := false) [goB_of txd, txd]
        refine ifA_dec (fun h5 => ?_) (fun h5 => ?_)
        · obtain ⟨id6, o6, c6, e6, f6, ow6, cs6, Fi6, E6⟩ := SlR.get (Rp.ext hlink (hXe.trans tx)) r h5
          obtain ⟨rfl, rfl, hok6⟩ := E6.rep
          have hlk := c5 d.links[r] (List.getElem_mem h5)
          have hll := linkL_len hlk.1 hi hlk.2
          simp +contextual (dsimp := false) [E6.idx, E6.goB, E6.le, E6.lt, E6.ext, Lnk.c]
          generalize hla : d.links[r] = l at *
          obtain ⟨ln, la, lh, lt⟩ := l
          dsimp only at hlk ⊢
          cases la with
          | true =>
            obtain ⟨m1, m2⟩ := hlk.2 rfl
            have hcn := decN_len lt.toNat
            have hlt4 : lt.toNat ≤ 400 := by omega
            simp +contextual (dsimp := false) (disch := first | (simp; done) | (simp; omega)) [bin_ladd]
            refine CallK.fl ⟨_, Tryd.func41, rfl, rfl⟩ (l1Dec_ac (lt.toNat + 1) lt.toNat (by omega) (by omega) _ (by omega) _) ?_
            simp +contextual (dsimp := false) (disch := first | (simp; done) | (simp; omega)) [bin_ladd]
            refine AppK.one (R := strR) (ex := 9) (fx := (0, 0)) (ox := true) (base := H.length + 1) (x := linkL ⟨ln, true, lh, lt⟩) (cx := [.string ⟨⟨linkL ⟨ln, true, lh, lt⟩⟩⟩]) (Fx := []) slt23 und23 (Rp.ext tt (Ext.app _ _)) tf (by simp [linkL]) ⟨rfl, rfl, by unfold okS; omega⟩ (Fresh.nil _) (by simp) (by simp; omega) (by simp only [List.length_cons, List.length_append, List.length_map, List.length_take]; omega) (by decide) ?_
            intro s1 H1 F1 q1 q2 q3 q4 q5
            simp only [List.length_append, List.length_cons, List.length_nil] at q3 q4
            simp +contextual (dsimp := false) [wrap_succ (show r < 9223372036854775807 by omega)]
            refine LoopN.of (r + 1, H1, s1, F1) rfl ⟨h5, fun j hj => (q4 j (by omega) (fun hm => by have := tf.1 j hm; omega)).trans ((get_ext (by omega)).trans (tx j hj)), ?_, q2⟩ (by dsimp only; omega)
            dsimp only
            rw [List.take_succ_eq_append_getElem h5, hla, List.map_append, ← List.append_assoc, ← List.cons_append]
            exact q1
          | false =>
            have hfl : (flagT lh).length ≤ 1 := by unfold flagT; split <;> simp
            simp +contextual (dsimp := false) (disch := first | (simp; done) | (simp; omega)) [bin_ladd]
            refine CallK.fl ⟨_, Tryd.func91, rfl, rfl⟩ (l1Flag6_ac _ _) ?_
            simp +contextual (dsimp := false) (disch := first | (simp; done) | (simp; omega)) [bin_ladd]
            refine AppK.one (R := strR) (ex := 9) (fx := (0, 0)) (ox := true) (base := H.length + 1) (x := linkL ⟨ln, false, lh, lt⟩) (cx := [.string ⟨⟨linkL ⟨ln, false, lh, lt⟩⟩⟩]) (Fx := []) slt23 und23 (Rp.ext tt (Ext.app _ _)) tf (by simp [linkL]) ⟨rfl, rfl, by unfold okS; omega⟩ (Fresh.nil _) (by simp) (by simp; omega) (by simp only [List.length_cons, List.length_append, List.length_map, List.length_take]; omega) (by decide) ?_
            intro s1 H1 F1 q1 q2 q3 q4 q5
            simp only [List.length_append, List.length_cons, List.length_nil] at q3 q4
            simp +contextual (dsimp := false) [wrap_succ (show r < 9223372036854775807 by omega)]
            refine LoopN.of (r + 1, H1, s1, F1) rfl ⟨h5, fun j hj => (q4 j (by omega) (fun hm => by have := tf.1 j hm; omega)).trans ((get_ext (by omega)).trans (tx j hj)), ?_, q2⟩ (by dsimp only; omega)
            dsimp only
            rw [List.take_succ_eq_append_getElem h5, hla, List.map_append, ← List.append_assoc, ← List.cons_append]
            exact q1
        · obtain rfl : r = d.links.length := by omega
          rw [Nat.min_self] at tt
          rw [List.take_length] at tt
          rw [Nat.min_self]
          refine AppK.one (R := strR) (ex := 9) (fx := (0, 0)) (ox := true) (base := H.length + 1) (x := endL) (cx := [.string ⟨⟨endL⟩⟩]) (Fx := []) slt23 und23 (Rp.ext tt (Ext.app _ _)) tf (by simp [endL]) ⟨rfl, rfl, by simp [okS, endL]⟩ (Fresh.nil _) (by simp) (by simp; omega) (by simp only [List.length_cons, List.length_append, List.length_map, List.length_take]; omega) (by decide) ?_
          intro s1 H1 F1 q1 q2 q3 q4 q5
          simp only [List.length_append, List.length_cons, List.length_nil] at q3 q4
          obtain ⟨a9, z9, rfl⟩ := q1.form
          simp +contextual (dsimp := false)
          refine ⟨fun j hj => (q4 j (by omega) (fun hm => by have := tf.1 j hm; omega)).trans ((get_ext (by omega)).trans ((tx j (by omega)).trans (hXe j hj))), F1, ?_, q2.weak (by omega)⟩
          rw [show deedLines d = (headL d :: (d.action.map doL ++ d.links.map linkL)) ++ [endL] by simp [deedLines, k1, k2]]
          have e : ((headL d :: (d.action.map doL ++ d.links.map linkL)) ++ [endL]).length = d.action.length + (d.links.length + 1) + 1 := by simp; try omega
          rw [e] at q1
          exact q1
end Go.Proofs.YtehhjbomdohgoaaDoor

/- spec.FormAccount. No condition. -/
set_option linter.unusedSimpArgs false
set_option linter.unusedVariables false
namespace Go.Proofs.YtehhjbomdohgoaaDoor
open Go Go.Am Go.Proofs
set_option maxRecDepth 20000
variable {ng : Nat}
theorem joinN_s {l : List (List UInt8)} {k : Nat} (h : k < l.length) : joinN (l.take (k + 1)) = joinN (l.take k) ++ l[k] ++ [10] := by
  rw [List.take_succ_eq_append_getElem h, joinN_app, joinN_one]
  simp
theorem joinN_ge : ∀ l : List (List UInt8), l.length ≤ (joinN l).length
  | [] => by simp [joinN]
  | x :: l => by
    have := joinN_ge l
    rw [joinN_cons]
    simp only [List.length_cons, List.length_append, List.length_nil]
    omega
theorem joinN_take (l : List (List UInt8)) (k : Nat) : (joinN (l.take k)).length ≤ (joinN l).length := by
  conv => rhs; rw [← List.take_append_drop k l, joinN_app]
  simp
theorem conv_str {P : Program} {a b e : TypeId} {l : List UInt8} {H : Heap} (h1 : P.underlying a = some .string) (h2 : P.underlying b = some (.slice e)) (h3 : P.underlying e = some (.int .u8)) :
    conv? P H a b (str l) = some (.slice (some ⟨H.length, 0, none⟩) l.length 1, H ++ [⟨.cells (l.map fun b => Value.int .u8 (b.toNat : Int)).toArray e (0, 1), true, true⟩]) := by
  have hbc : byteCells ⟨⟨l⟩⟩ = l.map fun b => Value.int .u8 (b.toNat : Int) := by simp [byteCells]
  have hsz : (⟨⟨l⟩⟩ : ByteArray).size = l.length := rfl
  simp only [conv?, h1, h2, h3, hbc, hsz]
theorem bytes_new {H : Heap} {l : List UInt8} {e : TypeId} {q : Nat × Nat} (hl : l.length ≤ 100000) : BytesR true (H ++ [(⟨.cells (l.map fun b => Value.int .u8 (b.toNat : Int)).toArray e q, true, true⟩ : Blk)]) l [.slice (some ⟨H.length, 0, none⟩) l.length 1] [H.length] :=
  SlR.lit (j := H.length) (c := l.map fun b => Value.int .u8 (b.toNat : Int)) (e := e) (f := q) (o := true) (G := []) (by simp) (rep_bytes l) (by omega) (fun _ => rfl)
set_option maxHeartbeats 4000000 in
theorem specForm_ac {own : Bool} {ds : List Deed} {sd : Value} {FD : List Nat} {H : Heap} (hs : DeedsR own H ds [sd] FD) :
    AC Tryd.prog ng 27 [.agg #[sd]] H fun v S' => v = str (formAcc ds) ∧ S' = H := by
  obtain ⟨ad, zd, rfl⟩ := hs.form
  refine .flat (AC.go [] Tryd.func27 rfl Tryd.ntmps27 rfl ⟨mixed, by kernel_rfl⟩ ?_)
  simp +contextual (dsimp := false)
  refine CallK.fl ⟨_, Tryd.func60, rfl, rfl⟩ (l3Ok_ac (Rp.ext hs (Ext.app _ _))) ?_
  unfold formAcc
  cases hv : accOk ds with
  | false => simp +contextual (dsimp := false)
  | true =>
    obtain ⟨n400, n1⟩ := accOk_len' hv
    have hdk : ∀ i, (hi : i < ds.length) → deedOk ds i ds[i] = true := fun i hi => by rw [← dAt_lt hi]; exact accOk_deeds' hv i hi
    have hfl := form_len n400 hdk
    have hal := accHead_len n400
    have hdn := decN_len ds.length
    simp +contextual (dsimp := false)
    refine CallK.fl ⟨_, Tryd.func41, rfl, rfl⟩ (l1Dec_ac (ds.length + 1) ds.length (by omega) (by omega) _ (by omega) _) ?_
    simp +contextual (dsimp := false) (disch := first | (simp; done) | (simp; omega)) [bin_ladd]
    obtain ⟨HX, hHX⟩ : ∃ HX, HX = H ++ [(⟨.cells #[.slice ad ds.length zd] 61 (0, 0), true, true⟩ : Blk)] := ⟨_, rfl⟩
    have hxX : HX[H.length]? = some ⟨.cells #[.slice ad ds.length zd] 61 (0, 0), true, true⟩ := by rw [hHX]; simp
    have hXe : Ext H HX := by rw [hHX]; exact Ext.app _ _
    have hXl : HX.length = H.length + 1 := by rw [hHX]; simp
    rw [← hHX]
    clear hHX
    refine ConvK.of (conv_str und9 und22 und5) ?_
    rw [show (97 :: 99 :: 99 :: 111 :: 117 :: 110 :: 116 :: 32 :: (decN ds.length ++ [10]) : List UInt8) = accHead ds.length by simp [accHead]]
    have hb0 := bytes_new (H := HX) (l := accHead ds.length) (e := 5) (q := (0, 1)) (by omega)
    simp +contextual (dsimp := false)
    refine LoopA.up (σ := Nat × Heap × Value × List Nat) [1, 3, 4] (fun x => [(3, x.2.2.1), (4, int x.1)]) (fun x => x.2.1)
      (fun x => x.1 ≤ ds.length ∧ Ext HX x.2.1 ∧ BytesR true x.2.1 (accHead ds.length ++ joinN ((ds.take x.1).flatMap deedLines)) [x.2.2.1] x.2.2.2 ∧ Fresh (H.length + 1) x.2.2.2) (fun x => ds.length - x.1) (0, _, _, [HX.length]) rfl ⟨by simp, Ext.app _ _, by simpa [joinN] using hb0, Fresh.one (by omega)⟩ ?_
    rintro ⟨i, hp, sv, FB⟩ ⟨hi, hx, hr, hf⟩
    dsimp only at hi hx hr hf
    have hle := hx.le
    have hpi := hfl i hi
    have hxd := (hx H.length (by omega)).trans hxX
    obtain ⟨a3, z3, rfl⟩ := hr.form
    rw [List.length_append] at hr
    simp +contextual (dsimp := false) [goB_of hxd, hxd]
    refine ifA_dec (fun h3 => ?_) (fun h3 => ?_)
    · obtain ⟨id, o, c, e, f, ow, cs, Fi, E⟩ := SlR.get hs i h3
      have hrep := Rp.ext E.rep (hXe.trans hx)
      have hEb := ((hXe.trans hx) id E.lt).trans E.blk
      have hElt : id < hp.length := by have := E.lt; omega
      have hdl := deedLines_len (i := i) (by omega) (hdk i h3)
      simp +contextual (dsimp := false) [E.idx, goB_of hEb, hEb, E.le, hElt, E.ext]
      refine CallK.of ⟨_, Tryd.func61, rfl, rfl⟩ (l6Deed_ac hrep (by omega) (hdk i h3)) ?_
      rintro v S1 ⟨FL, heL, hrL, hfL⟩
      obtain ⟨a5, z5, rfl⟩ := hrL.form
      have hlL := heL.le
      have hltF := fun j hj => Rp.lt hr j hj
      simp +contextual (dsimp := false)
      obtain ⟨base, hbase⟩ : ∃ b, b = accHead ds.length ++ joinN ((ds.take i).flatMap deedLines) := ⟨_, rfl⟩
      have hbl : base.length = (accHead ds.length).length + (joinN ((ds.take i).flatMap deedLines)).length := by rw [hbase]; simp
      rw [← hbase] at hr
      rw [← hbl] at hr ⊢
      refine LoopA.up (σ := Nat × Heap × Value × List Nat) [1, 3, 4, 5, 6] (fun x => [(3, x.2.2.1), (6, int x.1)]) (fun x => x.2.1)
        (fun x => x.1 ≤ (deedLines ds[i]).length ∧ S1.length ≤ x.2.1.length ∧ (∀ j, j < S1.length → j ∉ FB → x.2.1[j]? = S1[j]?) ∧ BytesR true x.2.1 (base ++ joinN ((deedLines ds[i]).take x.1)) [x.2.2.1] x.2.2.2 ∧ Fresh (H.length + 1) x.2.2.2 ∧ ∀ j ∈ x.2.2.2, j ∈ FB ∨ S1.length ≤ j) (fun x => (deedLines ds[i]).length - x.1) (0, S1, .slice a3 base.length z3, FB) (by simp) ⟨by simp, Nat.le_refl _, fun _ _ _ => rfl, by simpa [joinN] using Rp.ext hr heL, hf, fun j hj => .inl hj⟩ ?_
      rintro ⟨k, hq, sv2, FQ⟩ ⟨gk, gl, gx, gr, gf, gq⟩
      dsimp only at gk gl gx gr gf gq
      have hLq := Rp.fr hrL (H' := hq) fun j hj => gx j (Rp.lt hrL j hj) fun hm => by
        have := hfL.1 j hj
        have := hltF j hm
        omega
      have hjt := joinN_take (deedLines ds[i]) k
      have hjg := joinN_ge (deedLines ds[i])
      simp +contextual (dsimp := false)
      refine ifA_dec (fun h4 => ?_) (fun h4 => ?_)
      · obtain ⟨id6, o6, c6, e6, f6, ow6, cs6, Fi6, E6⟩ := SlR.get hLq k h4
        obtain ⟨rfl, rfl, hok6⟩ := E6.rep
        have hc6 := E6.cell0 (by omega)
        have hjs := joinN_take (deedLines ds[i]) (k + 1)
        rw [joinN_s h4] at hjs
        simp only [List.length_append, List.length_singleton] at hjs
        simp +contextual (dsimp := false) [E6.idx, E6.goB, E6.le, E6.lt, E6.ext, hc6]
        refine AppK.str (base := H.length + 1) slt22 und9 gr gf (by omega) (by simp only [List.length_append]; omega) (by simp only [List.length_append]; omega) ?_
        intro s1 H1 F1 q1 q2 q3 q4 q5
        simp +contextual (dsimp := false)
        refine AppK.one (R := byteR) (ex := 5) (fx := (0, 0)) (ox := true) (base := H.length + 1) (x := 10) (cx := [.int .u8 10]) (Fx := []) slt22 und22 (Rp.ext q1 (Ext.app _ _)) q2 (by simp) ⟨rfl, rfl, trivial⟩ (Fresh.nil _) (by simp) (by simp; omega) (by simp only [List.length_append]; omega) (by decide) ?_
        intro s2 H2 F2 r1 r2 r3 r4 r5
        simp only [List.length_append, List.length_singleton] at r3 r4 r5
        simp +contextual (dsimp := false) [wrap_succ (show k < 9223372036854775807 by omega)]
        refine LoopN.of (k + 1, H2, s2, F2) rfl ⟨h4, by dsimp only; omega, fun j hj hm => ?_, ?_, r2, fun j hj => ?_⟩ (by dsimp only; omega)
        · have h1 : j ∉ FQ := fun h => (gq j h).elim hm (fun h => by omega)
          have h2 : j ∉ F1 := fun h => (q5 j h).elim h1 (fun h => by omega)
          exact (r4 j (by omega) h2).trans ((get_ext (by omega)).trans ((q4 j (by omega) h1).trans (gx j hj hm)))
        · dsimp only
          rw [joinN_s h4, ← List.append_assoc, ← List.append_assoc]
          exact r1
        · rcases r5 j hj with h | h | h
          · rcases q5 j h with h | h
            · exact gq j h
            · exact .inr (by omega)
          · cases h
          · exact .inr (by omega)
      · obtain rfl : k = (deedLines ds[i]).length := by omega
        rw [List.take_length] at gr
        simp +contextual (dsimp := false) [wrap_succ (show i < 9223372036854775807 by omega)]
        refine LoopN.of (i + 1, hq, sv2, FQ) rfl ⟨h3, fun j hj => (gx j (by omega) (fun hm => by have := hf.1 j hm; omega)).trans ((heL j (by omega)).trans (hx j hj)), ?_, gf⟩ (by dsimp only; omega)
        dsimp only
        rw [formB_s h3, ← List.append_assoc, ← hbase]
        exact gr
    · obtain rfl : i = ds.length := by omega
      rw [List.take_length] at hr
      have hfb : accHead ds.length ++ joinN (ds.flatMap deedLines) = formB ds := rfl
      have hlf : (formB ds).length = (accHead ds.length).length + (joinN (ds.flatMap deedLines)).length := by rw [← hfb, List.length_append]
      by_cases hbig : 300000 < (formB ds).length
      · have hbig' : (300000 : Int) < ((accHead ds.length).length : Int) + ((joinN (ds.flatMap deedLines)).length : Int) := by omega
        simp +contextual (dsimp := false) [hbig']
        exact ⟨fun h => by omega, hXe.trans hx⟩
      · have hbig' : ¬ (300000 : Int) < ((accHead ds.length).length : Int) + ((joinN (ds.flatMap deedLines)).length : Int) := by omega
        simp +contextual (dsimp := false) [hbig']
        refine ConvK.of (conv_bytes und22 und5 und9 hr) ?_
        simp +contextual (dsimp := false)
        rw [hfb]
        refine ⟨?_, hXe.trans hx⟩
        rw [if_neg hbig]
end Go.Proofs.YtehhjbomdohgoaaDoor

/- FnExactFormAccount: its walk. No condition. -/
set_option linter.unusedSimpArgs false
set_option linter.unusedVariables false
namespace Go.Proofs.YtehhjbomdohgoaaDoor
open Go Go.Am
set_option maxRecDepth 20000
variable {ng : Nat}
theorem fnExactFormAccount_ac {own : Bool} {x : List Deed} {s : Value} {F : List Nat} {H : Heap} (h : DeedsR own H x [s] F) (hW : WordsG gW H) (hP : P10 g10 H) (h0 : gW < ng) (h2 : g10 < ng) : AC Tryd.prog ng 6 [.agg #[s]] H fun v S' => v = .bool true ∧ S' = H := by
  obtain ⟨a1, z1, rfl⟩ := h.form
  refine .flat (AC.go [(10, .take 0 <| .take 1 <| .one 2 [0] <| .one 3 [] <| .take 4 <| .done)] Tryd.func6 rfl Tryd.ntmps6 rfl ⟨mixed, by kernel_rfl⟩ ?_)
  simp +contextual (dsimp := false)
  refine CallK.fl ⟨_, Tryd.func26, rfl, rfl⟩ (szAccount_ac (Rp.ext h (Ext.app _ _)) 1048576 (by omega)) ?_
  simp +contextual (dsimp := false)
  refine ifA_dec (fun hlt => ?_) (fun hlt => ?_)
  · simp
  · rw [szR_lt (by omega)] at hlt
    have hb : wL Deed.w x ≤ 1048576 := by omega
    refine CallK.of ⟨_, Tryd.func28, rfl, rfl⟩ (toAccount_ac (Rp.ext h (Ext.app _ _)) hb) ?_
    rintro v S1 ⟨s1, F1, rfl, he1, hv1, hf1⟩
    obtain ⟨X1, rfl⟩ := he1.split
    try simp only [List.append_assoc, List.cons_append, List.nil_append] at hv1 ⊢
    simp +contextual (dsimp := false)
    refine CallK.fl ⟨_, Tryd.func27, rfl, rfl⟩ (specForm_ac hv1) ?_
    simp +contextual (dsimp := false)
    refine CallK.of ⟨_, Tryd.func28, rfl, rfl⟩ (toAccount_ac (Rp.ext h (Ext.app _ _)) hb) ?_
    rintro v S2 ⟨s2, F2, rfl, he2, hv2, hf2⟩
    obtain ⟨X2, rfl⟩ := he2.split
    try simp only [List.append_assoc, List.cons_append, List.nil_append] at hv2 ⊢
    obtain ⟨_, _, rfl⟩ := hv2.form
    simp +contextual (dsimp := false)
    refine CallK.fl ⟨_, Tryd.func29, rfl, rfl⟩ (implForm_ac (Rp.ext hv2 (by first | exact Ext.app _ _ | exact Ext.refl _ | (refine Ext.of ?_; simp))) (hW.ext (by first | exact Ext.app _ _ | exact Ext.refl _ | (refine Ext.of ?_; simp))) (hP.ext (by first | exact Ext.app _ _ | exact Ext.refl _ | (refine Ext.of ?_; simp))) h0 h2) ?_
    simp +contextual (dsimp := false)
    refine CallK.of ⟨_, Tryd.func28, rfl, rfl⟩ (toAccount_ac (Rp.ext h (Ext.app _ _)) hb) ?_
    rintro v S3 ⟨s3, F3, rfl, he3, hv3, hf3⟩
    obtain ⟨X3, rfl⟩ := he3.split
    try simp only [List.append_assoc, List.cons_append, List.nil_append] at hv3 ⊢
    simp +contextual (dsimp := false)
    refine CallK.fl ⟨_, Tryd.func30, rfl, rfl⟩ (eqAccount_ac (Rp.ext hv2 (by first | exact Ext.app _ _ | exact Ext.refl _ | (refine Ext.of ?_; simp))) hv3) ?_
    simp +contextual (dsimp := false)
end Go.Proofs.YtehhjbomdohgoaaDoor

/- Lines of instructions; PrintProgram, both. No condition. -/
import Derived.Test.YtehhjbomdohgoaaDoorBld
set_option linter.unusedSimpArgs false
set_option linter.unusedVariables false
namespace Go.Proofs.YtehhjbomdohgoaaDoor
open Go Go.Am Go.Proofs
set_option maxRecDepth 20000
variable {ng : Nat}
theorem valid_parts {x : Ins} (h : x.valid = true) : 1 ≤ x.op ∧ x.op ≤ 15 ∧ x.text.length ≤ 2000 ∧ (x.op = 1 ∨ x.text = []) ∧ 0 ≤ x.n ∧ x.n ≤ max 0 (topN x.op) ∧ x.n ≤ 2000 := by
  simp only [Ins.valid, Bool.and_eq_true, decide_eq_true_eq, Bool.or_eq_true, List.isEmpty_iff] at h
  obtain ⟨⟨⟨⟨⟨h1, h2⟩, h3⟩, h4⟩, h5⟩, h6⟩ := h
  refine ⟨h1, h2, h3, h4, h5, h6, ?_⟩
  unfold topN at h6
  repeat' split at h6
  all_goals omega
def gW : Nat := 0
theorem line_ac {x : Ins} {H : Heap} (hx : x.valid = true) (hW : WordsG gW H) (hP : P10 g10 H) (h0 : gW < ng) (h2 : g10 < ng) : AC Tryd.prog ng 50 [.agg x.c.toArray] H fun v S' => v = str (lineL x) ∧ S' = H := by
  obtain ⟨v1, v2, v3, v4, v5, v6, v7⟩ := valid_parts hx
  obtain ⟨k1, k2⟩ := kind_top v1 v2
  have hwl := wordOf_len x.op
  have hdl := decN_len x.n.toNat
  refine .flat (AC.go [(4, .take 1 <| .take 6 <| .take 0 <| .take 2 <| .take 3 <| .take 4 <| .take 5 <| .take 7 <| .one 8 [0, 2, 4] <| .take 9 <| .take 10 <| .done)] Tryd.func50 rfl Tryd.ntmps50 rfl ⟨mixed, by kernel_rfl⟩ ?_)
  have hx1 : ∀ T, Ext H (H ++ T) := fun T => Ext.app H T
  obtain ⟨sv, F, e0, f0, hb, hsv⟩ := id hW
  obtain ⟨a, z, rfl⟩ := hsv.form
  have hop : ((x.op.toNat : Nat) : Int) = x.op := Int.toNat_of_nonneg (by omega)
  have hol : x.op.toNat < wordsT.length := by show x.op.toNat < 16; omega
  have hwx := words_get v1 v2
  have hwg : wordsT[x.op.toNat] = (wordOf x.op).1 := by rw [← hwx, List.getD_eq_getElem?_getD, List.getElem?_eq_getElem hol]; rfl
  have hgl : gW < H.length := (List.getElem?_eq_some_iff.1 hb).1
  have hbT : ∀ (T : Heap) (q : Blk → Prop), goB (H ++ T) gW q = q ⟨.cells #[.slice a wordsT.length z] e0 f0, true, false⟩ := fun T q => goB_app hb q
  unfold gW at h0 hgl hbT
  by_cases h1 : x.op = 1
  · have hq := quoteL_len x.text
    simp +contextual (dsimp := false) [Ins.c, h1]
    refine CallK.fl ⟨_, Tryd.func64, rfl, rfl⟩ (quote_ac x.text (by omega) _) ?_
    simp +contextual (dsimp := false)
    rw [show (Value.string { data := #[108, 105, 116, 32] }) = str [108, 105, 116, 32] from rfl, bin_ladd (by simp; omega)]
    simp +contextual (dsimp := false)
    unfold lineL
    rw [if_pos (k2.2 h1), h1]
    rfl
  · obtain ⟨id, o, c, e, f, ow, cs, Fi, E⟩ := SlR.get (Rp.ext hsv (hx1 [(⟨.cells #[int x.op, str x.text, int x.n] 84 (0, 0), true, true⟩ : Blk)])) x.op.toNat hol
    obtain ⟨rfl, rfl, hok'⟩ := E.rep
    have hix := E.idx
    rw [hop] at hix
    have hc0 := E.cell0 (by omega)
    simp +contextual (dsimp := false) [Ins.c, h1]
    refine CallK.fl ⟨_, Tryd.func81, rfl, rfl⟩ (top_ac _ _) ?_
    simp +contextual (dsimp := false) [h0, hbT, hix, E.goB, E.le, hc0, hwg]
    refine ifA_dec (fun h4 => ?_) (fun h4 => ?_)
    · rw [bin_ladd (by simp; omega)]
      simp +contextual (dsimp := false)
      refine CallK.fl ⟨_, Tryd.func40, rfl, rfl⟩ (itoa_ac (n := x.n.toNat) (by omega) (hP.ext (Ext.app _ _)) h2 (by omega)) ?_
      have hd2 : ((wordOf x.op).1 ++ [32]).length + (decN x.n.toNat).length ≤ 9223372036854775807 := by simp; omega
      have hd3 : (wordOf x.op).1.length + [(32 : UInt8)].length ≤ 9223372036854775807 := by simp; omega
      have hfin : (wordOf x.op).1 ++ [32] ++ decN x.n.toNat = lineL x := by
        unfold lineL
        rw [if_neg (fun h => h1 (k2.1 h)), if_pos (k1.2 h4)]
        simp
      simp +contextual (dsimp := false) [h0, hbT, hix, E.goB, E.le, hc0, hwg, E.blk, bin_ladd hd2, bin_ladd hd3]
      rw [← hfin]
      try simp
    · unfold lineL
      rw [if_neg (fun h => h1 (k2.1 h)), if_neg (fun h => h4 (k1.1 h))]
theorem l1Line_ac {x : Ins} {H : Heap} (hx : x.valid = true) : AC Tryd.prog ng 46 [.agg x.c.toArray] H fun v S' => v = str (lineL x) ∧ S' = H := by
  obtain ⟨v1, v2, v3, v4, v5, v6, v7⟩ := valid_parts hx
  have hwl := wordOf_len x.op
  have hdl := decN_len x.n.toNat
  have hq := quoteL_len x.text
  refine .flat (AC.go [] Tryd.func46 rfl Tryd.ntmps46 rfl ⟨mixed, by kernel_rfl⟩ ?_)
  simp +contextual (dsimp := false) [Ins.c]
  refine CallK.fl ⟨_, Tryd.func76, rfl, rfl⟩ (l1Word_ac x.op _) ?_
  simp +contextual (dsimp := false)
  unfold lineL
  refine ifA_dec (fun h1 => ?_) (fun h1 => ?_)
  · rw [bin_ladd (by simp; omega)]
    simp +contextual (dsimp := false)
    refine CallK.fl ⟨_, Tryd.func77, rfl, rfl⟩ (l1Quote_ac x.text (by omega) _) ?_
    simp +contextual (dsimp := false) [bin_ladd (show ((wordOf x.op).1 ++ [32]).length + (quoteL x.text).length ≤ 9223372036854775807 by simp; omega), h1]
  · refine ifA_dec (fun h2 => ?_) (fun h2 => ?_)
    · rw [bin_ladd (by simp; omega)]
      simp +contextual (dsimp := false)
      refine CallK.fl ⟨_, Tryd.func41, rfl, rfl⟩ (l1Dec_ac (x.n.toNat + 1) x.n.toNat (by omega) (by omega) _ (by omega) _) ?_
      simp +contextual (dsimp := false) [bin_ladd (show ((wordOf x.op).1 ++ [32]).length + (decN x.n.toNat).length ≤ 9223372036854775807 by simp; omega), h1, h2]
    · simp [h1, h2]
theorem implPrintProgram_ac {own : Bool} {p : List Ins} {s : Value} {F : List Nat} {H : Heap} (hs : CodeR own H p [s] F) (hW : WordsG gW H) (hP : P10 g10 H) (h0 : gW < ng) (h2 : g10 < ng) : AC Tryd.prog ng 18 [.agg #[s]] H fun v S' => v = str (printP p) ∧ S' = H := by
  obtain ⟨a, z, rfl⟩ := hs.form
  refine .flat (AC.go [] Tryd.func18 rfl Tryd.ntmps18 rfl ⟨mixed, by kernel_rfl⟩ ?_)
  simp +contextual (dsimp := false)
  refine CallK.fl ⟨_, Tryd.func48, rfl, rfl⟩ (validProgram_ac (Rp.ext hs (Ext.app _ _))) ?_
  unfold printP
  cases hv : validP p with
  | false => simp +contextual (dsimp := false)
  | true =>
    have hpl := validP_len hv
    simp +contextual (dsimp := false)
    obtain ⟨H0, hH0⟩ : ∃ H0, H0 = H ++ [(⟨.cells #[.slice a p.length z] 40 (0, 0), true, true⟩ : Blk), ⟨.cells #[.pointer none, .slice none 0 0] 88 (0, 0), true, true⟩] := ⟨_, rfl⟩
    have hx0 : Ext H H0 := by rw [hH0]; exact Ext.app _ _
    have hl0 : H0.length = H.length + 2 := by rw [hH0]; simp
    have hb0 : BldR 88 5 H0 (H.length + 1) (printL (p.take 0)) [] := ⟨.pointer none, .slice none 0 0, by rw [hH0]; simp, .inl ⟨rfl, rfl, rfl⟩, by simp, .inl rfl⟩
    rw [← hH0]
    have hva := fun x (hx : x ∈ p) => validP_all hv hx
    refine LoopA.up (σ := Nat × Heap × List Nat) [3, 10, 11, 12] (fun i => [(12, int i.1)]) (fun i => i.2.1)
      (fun x => x.1 ≤ p.length ∧ Ext H x.2.1 ∧ BldR 88 5 x.2.1 (H.length + 1) (printL (p.take x.1)) x.2.2 ∧ ∀ j ∈ x.2.2, H.length ≤ j) (fun i => p.length - i.1) (0, H0, []) rfl ⟨by simp, hx0, hb0, by simp⟩ ?_
    rintro ⟨i, hp, FB⟩ ⟨hi, hx, hb, hf⟩
    dsimp only at hi hx hb hf
    have hle := hx.le
    have hpr : (printL (p.take i)).length ≤ 6011 * 200 := by
      have h1 := printL_len (p := p.take i) fun x hx => hva x (mem_take hx)
      have h2 := List.length_take_le i p
      have := Nat.mul_le_mul_left 6011 (show (p.take i).length ≤ 200 by simp only [List.length_take]; omega)
      omega
    simp +contextual (dsimp := false)
    refine ifA_dec (fun h3 => ?_) (fun h3 => ?_)
    · obtain ⟨id, o, c, e, f, ow, cs, Fi, E⟩ := SlR.get (Rp.ext hs hx) i h3
      obtain ⟨rfl, rfl, hok⟩ := E.rep
      have hvi := hva p[i] (List.getElem_mem h3)
      have hli := lineL_len hvi
      simp +contextual (dsimp := false) [E.idx, E.goB, E.le, E.lt, E.ext, Ins.c]
      refine CallK.fl ⟨_, Tryd.func50, rfl, rfl⟩ (line_ac hvi (hW.ext (hx.trans (Ext.app _ _))) (hP.ext (hx.trans (Ext.app _ _))) h0 h2) ?_
      simp +contextual (dsimp := false)
      rw [show (Value.string { data := #[10] }) = str [10] from rfl, bin_ladd (by simp; omega)]
      simp +contextual (dsimp := false)
      refine CallK.of ⟨_, Tryd.func49, rfl, rfl⟩ (writeString_ac (hb.ext (Ext.app _ _)) (by simp; omega)) ?_
      rintro v S' ⟨rfl, F', hb', hl', hfr', hF'⟩
      simp only [List.length_append, List.length_singleton] at hl' hfr' hF'
      have hblt := hb.lt
      simp +contextual (dsimp := false) [wrap_succ (show i < 9223372036854775807 by omega)]
      refine LoopN.of (i + 1, S', F') rfl ⟨h3, fun j hj => (hfr' j (by omega) (by omega) (fun hm => by have := hf j hm; omega)).trans ((get_ext (by omega)).trans (hx j hj)), ?_, fun j hj => (hF' j hj).elim (fun h => by omega) (hf j)⟩ (by dsimp only; omega)
      dsimp only
      rw [printL_s h3]
      exact hb'
    · rw [List.take_of_length_le (show p.length ≤ i by omega)] at hb hpr
      refine CallK.of ⟨_, Tryd.func51, rfl, rfl⟩ (builderString_ac hb (by omega)) ?_
      rintro v S' ⟨rfl, hl', hfr'⟩
      simp +contextual (dsimp := false)
      exact fun j hj => (hfr' j (fun hm => by have := hf j hm; omega)).trans (hx j hj)
theorem specPrintProgram_ac {own : Bool} {p : List Ins} {s : Value} {F : List Nat} {H : Heap} (hs : CodeR own H p [s] F) : AC Tryd.prog ng 16 [.agg #[s]] H fun v S' => v = str (printP p) ∧ S' = H := by
  obtain ⟨a, z, rfl⟩ := hs.form
  refine .flat (AC.go [] Tryd.func16 rfl Tryd.ntmps16 rfl ⟨mixed, by kernel_rfl⟩ ?_)
  simp +contextual (dsimp := false)
  refine CallK.fl ⟨_, Tryd.func45, rfl, rfl⟩ (specValid_ac (Rp.ext hs (Ext.app _ _))) ?_
  unfold printP
  cases hv : validP p with
  | false => simp +contextual (dsimp := false)
  | true =>
    have hpl := validP_len hv
    simp +contextual (dsimp := false)
    obtain ⟨HB, hHB⟩ : ∃ HB, HB = H ++ [(⟨.cells #[.slice a p.length z] 40 (0, 0), true, true⟩ : Blk)] := ⟨_, rfl⟩
    have hx0 : Ext H HB := by rw [hHB]; exact Ext.app _ _
    have hl0 : HB.length = H.length + 1 := by rw [hHB]; simp
    have hb0 : HB[H.length]? = some (⟨.cells #[.slice a p.length z] 40 (0, 0), true, true⟩ : Blk) := by rw [hHB]; simp
    have hr0 : BytesR true (HB ++ [(⟨.cells #[] 5 (0, 0), true, true⟩ : Blk)]) (printL (p.take 0)) [.slice (some ⟨H.length + 1, 0, none⟩) 0 1] [H.length + 1] := SlR.mt (R := byteR) (e := 5) (f := (0, 0)) (by rw [← hl0]; simp)
    rw [show H ++ [(⟨.cells #[.slice a p.length z] 40 (0, 0), true, true⟩ : Blk), ⟨.cells #[] 5 (0, 0), true, true⟩] = HB ++ [⟨.cells #[] 5 (0, 0), true, true⟩] by rw [hHB]; simp]
    have hva := fun x (hx : x ∈ p) => validP_all hv hx
    refine LoopA.up (σ := Nat × Heap × Value × List Nat) [1, 3, 4] (fun i => [(3, i.2.2.1), (4, int i.1)]) (fun i => i.2.1)
      (fun x => x.1 ≤ p.length ∧ Ext HB x.2.1 ∧ BytesR true x.2.1 (printL (p.take x.1)) [x.2.2.1] x.2.2.2 ∧ Fresh (H.length + 1) x.2.2.2) (fun i => p.length - i.1) (0, _, _, _) rfl ⟨by simp, Ext.app _ _, hr0, Fresh.one (Nat.le_refl _)⟩ ?_
    rintro ⟨i, hp, sv, FB⟩ ⟨hi, hx, hr, hf⟩
    dsimp only at hi hx hr hf
    have hle := hx.le
    have hpr : (printL (p.take i)).length ≤ 6011 * 200 := by
      have h1 := printL_len (p := p.take i) fun x hx => hva x (mem_take hx)
      have := Nat.mul_le_mul_left 6011 (show (p.take i).length ≤ 200 by simp only [List.length_take]; omega)
      omega
    have hbx : hp[H.length]? = _ := (hx _ (by omega)).trans hb0
    simp +contextual (dsimp := false) [hbx]
    refine ifA_dec (fun h3 => ?_) (fun h3 => ?_)
    · obtain ⟨id, o, c, e, f, ow, cs, Fi, E⟩ := SlR.get (Rp.ext hs (hx0.trans hx)) i h3
      obtain ⟨rfl, rfl, hok⟩ := E.rep
      have hvi := hva p[i] (List.getElem_mem h3)
      have hli := lineL_len hvi
      simp +contextual (dsimp := false) [hbx, E.idx, E.goB, E.le, E.lt, E.ext, Ins.c]
      refine CallK.fl ⟨_, Tryd.func46, rfl, rfl⟩ (l1Line_ac hvi) ?_
      simp +contextual (dsimp := false)
      refine AppK.str (base := H.length + 1) slt22 und9 hr hf (by omega) (by omega) (by omega) ?_
      intro s1 H1 F1 q1 q2 q3 q4 q5
      have hF : ∀ j, j < H.length + 1 → j ∉ FB := fun j hj hm => by have := hf.1 j hm; omega
      have hx1 : Ext HB H1 := fun j hj => (q4 j (by omega) (hF j (by omega))).trans (hx j hj)
      simp +contextual (dsimp := false)
      refine AppK.one (R := byteR) (ex := 5) (fx := (0, 0)) (ox := true) (base := H.length + 1) (x := 10) (cx := [.int .u8 10]) (Fx := []) slt22 und22 (Rp.ext q1 (Ext.app _ _)) q2 (by simp) ⟨rfl, rfl, trivial⟩ (Fresh.nil _) (by simp) (by simp; omega) (by simp; omega) (by decide) ?_
      intro s2 H2 F2 r1 r2 r3 r4 r5
      simp only [List.length_append, List.length_singleton] at r3 r4
      simp +contextual (dsimp := false) [wrap_succ (show i < 9223372036854775807 by omega)]
      refine LoopN.of (i + 1, H2, s2, F2) rfl ⟨h3, fun j hj => (r4 j (by omega) (fun hm => (q5 j hm).elim (hF j (by omega)) (fun h => by omega))).trans ((get_ext (by omega)).trans (hx1 j hj)), ?_, r2⟩ (by dsimp only; omega)
      dsimp only
      rw [printL_s h3, ← List.append_assoc]
      exact r1
    · rw [List.take_of_length_le (show p.length ≤ i by omega)] at hr hpr
      refine ConvK.of (conv_bytes und22 und5 und9 hr) ?_
      simp +contextual (dsimp := false)
      exact hx0.trans hx
end Go.Proofs.YtehhjbomdohgoaaDoor

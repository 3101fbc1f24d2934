import Derived.Test.YtephpieeibcihaaSpec
import Derived.Test.YtephpieeibcihaaStr
import Derived.Test.YtephpieeibcihaaNms
/- Where a text stands in a list. No condition. -/
set_option linter.unusedSimpArgs false
set_option linter.unusedVariables false
namespace Go.Proofs.Ytephpieeibcihaa
open Go Go.Am Go.Proofs
set_option maxRecDepth 20000
variable {ng : Nat}
theorem indexS_ac {own : Bool} {l : List (List UInt8)} {s : Value} {F : List Nat} {H : Heap} (hs : StrsR own H l [s] F) (n : List UInt8) : AC Try.prog ng 26 [s, str n] H fun v S' => v = int (findI l n) ∧ S' = H := by
  obtain ⟨a, z, rfl⟩ := hs.form
  have hb := hs.bound
  refine .flat (AC.go [] Try.func26 rfl Try.ntmps26 rfl ⟨mixed, by kernel_rfl⟩ ?_)
  simp +contextual (dsimp := false)
  refine LoopA.upc (σ := Nat) [0, 1, 7, 8] (fun i => [(8, int i)]) (fun i => i ≤ l.length ∧ ∀ y ∈ l.take i, y ≠ n) (fun i => l.length - i) 0 rfl (by simp) ?_
  rintro i ⟨hi, hv⟩
  simp +contextual (dsimp := false)
  refine ifA_dec (fun h3 => ?_) (fun h3 => ?_)
  · obtain ⟨id, o, c, e, f, ow, cs, Fi, E⟩ := SlR.get hs i h3
    obtain ⟨rfl, rfl, hok⟩ := E.rep
    have hc0 := E.cell0 (by omega)
    simp +contextual (dsimp := false) [E.idx, E.goB, E.le, hc0, wrap_succ (show i < 9223372036854775807 by omega)]
    refine ifA_dec (fun h4 => ?_) (fun h4 => ?_)
    · rw [findI_hit h3 h4.symm hv]
    · exact LoopN.of (i + 1) rfl ⟨h3, fun y hy => by
        rw [List.take_succ_eq_append_getElem h3, List.mem_append] at hy
        rcases hy with hy | hy
        · exact hv y hy
        · simp at hy
          rw [hy]
          exact fun hc => h4 hc.symm⟩ (by omega)
  · rw [List.take_of_length_le (by omega)] at hv
    rw [findI_miss hv]
theorem containsS_ac {own : Bool} {l : List (List UInt8)} {s : Value} {F : List Nat} {H : Heap} (hs : StrsR own H l [s] F) (n : List UInt8) : AC Try.prog ng 18 [s, str n] H fun v S' => v = .bool (decide (n ∈ l)) ∧ S' = H := by
  obtain ⟨a, z, rfl⟩ := hs.form
  refine .flat (AC.go [] Try.func18 rfl Try.ntmps18 rfl ⟨mixed, by kernel_rfl⟩ ?_)
  simp +contextual (dsimp := false)
  refine CallK.fl ⟨_, Try.func26, rfl, rfl⟩ (indexS_ac hs n) ?_
  have := findI_ge l n
  simp +contextual (dsimp := false) [this]
end Go.Proofs.Ytephpieeibcihaa

/- The places of a list of accounts at which something holds. No condition. -/
set_option linter.unusedSimpArgs false
set_option linter.unusedVariables false
namespace Go.Am
open Go
/-- The places, up to n, at which something holds. -/
def whereB (p : Nat → Bool) (n : Nat) : List Int := ((List.range n).filter p).map fun (i : Nat) => (i : Int)
theorem whereB_s (p : Nat → Bool) (n : Nat) : whereB p (n + 1) = whereB p n ++ (if p n then [(n : Int)] else []) := by
  unfold whereB
  rw [List.range_succ, List.filter_append, List.map_append]
  congr 1
  cases h : p n <;> simp [h]
theorem whereB_len (p : Nat → Bool) (n : Nat) : (whereB p n).length ≤ n := by
  unfold whereB
  rw [List.length_map]
  exact Nat.le_trans (List.length_filter_le _ _) (by simp)
def accAt (l : List (List Deed)) (i : Nat) : List Deed := l.getD i []
theorem accAt_lt {l : List (List Deed)} {i : Nat} (h : i < l.length) : accAt l i = l[i] := by simp [accAt, List.getD, h]
end Go.Am
namespace Go.Proofs.Ytephpieeibcihaa
open Go Go.Am Go.Proofs
set_option maxRecDepth 20000
variable {ng : Nat}
theorem which_ac {own : Bool} {l : List (List Deed)} {s : Value} {F : List Nat} {H : Heap} (hs : AccsR own H l [s] F) {f : FuncId} {ys : List Value} (ho : CallOk Try.prog f) (p : Nat → Bool) (hcall : ∀ H', Ext H H' → ∀ i (hi : i < l.length) sd FD, DeedsR own H' l[i] [sd] FD → AC Try.prog ng f (.agg #[sd] :: ys) H' fun v S' => v = .bool (p i) ∧ S' = H') :
    AC Try.prog ng 16 [s, .func (.func f) #[] ys.toArray] H fun v S' => ∃ F', Ext H S' ∧ IntsR true S' (if 50 < l.length then [] else whereB p l.length) [v] F' ∧ Fresh H.length F' := by
  obtain ⟨a, z, rfl⟩ := hs.form
  refine AC.go [] Try.func16 rfl Try.ntmps16 rfl ⟨mixed, by kernel_rfl⟩ ?_
  by_cases k1 : 50 < l.length
  · have k1' : (50 : Int) < l.length := by omega
    rw [if_pos k1]
    simp +contextual (dsimp := false) [k1']
    exact ⟨[], SlR.nil, Fresh.nil _⟩
  have k1' : ¬ (50 : Int) < l.length := by omega
  rw [if_neg k1]
  simp +contextual (dsimp := false) [k1']
  refine LoopA.up (σ := Nat × Heap × Value × List Nat) [1, 5, 11, 12, 13] (fun x => [(5, x.2.2.1), (13, int x.1)]) (fun x => x.2.1)
    (fun y => y.1 ≤ l.length ∧ Ext H y.2.1 ∧ IntsR true y.2.1 (whereB p y.1) [y.2.2.1] y.2.2.2 ∧ Fresh H.length y.2.2.2) (fun y => l.length - y.1) (0, _, .slice none 0 0, []) rfl
    ⟨by simp, Ext.refl _, SlR.nil, Fresh.nil _⟩ ?_
  rintro ⟨i, hp, sv, FB⟩ ⟨gi, gx, gr, gf⟩
  dsimp only at gi gx gr gf
  have hle := gx.le
  have hwl := whereB_len p i
  have hgr := gr
  obtain ⟨ar, zr, rfl⟩ := gr.form
  simp +contextual (dsimp := false)
  refine ifA_dec (fun h3 => ?_) (fun h3 => ?_)
  · obtain ⟨id, o, cc, e, f1, ow, cs, Fi, E⟩ := SlR.get (Rp.ext hs gx) i h3
    have hrep := E.rep
    obtain ⟨s1, rfl⟩ := List.length_eq_one_iff.1 (Rp.len hrep)
    obtain ⟨a1, z1, rfl⟩ := hrep.form
    simp +contextual (dsimp := false) [E.idx, E.goB, E.lt, E.le, E.ext]
    refine CallK.fl ho (hcall _ (gx.trans (Ext.app _ _)) i h3 _ _ (Rp.ext hrep (Ext.app _ _))) ?_
    have hws := whereB_s p i
    cases hpi : p i with
    | false =>
      rw [hpi] at hws
      simp +contextual (dsimp := false) [wrap_succ (show i < 9223372036854775807 by omega)]
      refine LoopN.of (i + 1, _, _, FB) rfl ⟨h3, gx.trans (Ext.app _ _), ?_, gf⟩ (by dsimp only; omega)
      dsimp only
      rw [hws]
      simpa using Rp.ext hgr (Ext.app _ _)
    | true =>
      rw [hpi] at hws
      simp only [if_true] at hws
      simp +contextual (dsimp := false) [wrap_succ (show i < 9223372036854775807 by omega)]
      refine AppK.one (R := intR') (ex := 3) (fx := (0, 0)) (ox := true) (base := H.length) (x := (i : Int)) (cx := [int i]) (Fx := []) slt24 und24 (Rp.ext hgr (Ext.app _ _)) gf (by simp) ⟨rfl, rfl, by omega, by omega⟩ (Fresh.nil _) (by simp) (by simp; omega) (by omega) (by decide) ?_
      intro s2 H2 F2 q1 q2 q3 q4 q5
      simp only [List.length_append, List.length_cons, List.length_nil] at q3 q4
      simp +contextual (dsimp := false) [wrap_succ (show i < 9223372036854775807 by omega)]
      refine LoopN.of (i + 1, H2, s2, F2) rfl ⟨h3, fun j hj => (q4 j (by omega) (fun hm => by have := gf.1 j hm; omega)).trans ((List.getElem?_append_left (by omega)).trans (gx j hj)), ?_, q2⟩ (by dsimp only; omega)
      dsimp only
      rw [hws]
      exact q1
  · obtain rfl : i = l.length := by omega
    exact ⟨gx, FB, hgr, gf⟩
end Go.Proofs.Ytephpieeibcihaa

/- Cover, both. No condition. -/
set_option linter.unusedSimpArgs false
set_option linter.unusedVariables false
namespace Go.Am
open Go
def coverB (l : List (List Deed)) (n : List UInt8) (i : Nat) : Bool := decide (n ∈ namesOf (accAt l i))
def coverL (l : List (List Deed)) (n : List UInt8) : List Int := if 50 < l.length then [] else whereB (coverB l n) l.length
theorem coverL_len (l : List (List Deed)) (n : List UInt8) : (coverL l n).length ≤ 50 := by
  unfold coverL
  split
  · simp
  · have := whereB_len (coverB l n) l.length
    omega
theorem namesOf_nodup (ds : List Deed) : (namesOf ds).Nodup := by
  unfold namesOf
  split
  · exact (setOf_asc _).nodup
  · exact List.nodup_nil
theorem mem_take_c (l : List (List UInt8)) {k : Nat} (h : k < l.length) (n : List UInt8) : n ∈ l.take (k + 1) ↔ n ∈ l.take k ∨ n = l[k] := by
  rw [List.take_succ_eq_append_getElem h, List.mem_append, List.mem_singleton]
theorem nodup_take {α : Type} {l : List α} (hn : l.Nodup) {k : Nat} (h : k < l.length) : l[k] ∉ l.take k := fun hm => by
  obtain ⟨j, hj, he⟩ := List.getElem_of_mem hm
  have hj' : j < k := by simp at hj; omega
  rw [List.getElem_take] at he
  have h1 := List.pairwise_iff_getElem.1 hn j k (by omega) h hj'
  exact h1 he
end Go.Am
namespace Go.Proofs.Ytephpieeibcihaa
open Go Go.Am Go.Proofs
set_option maxRecDepth 20000
variable {ng : Nat}
theorem coverF_ac {own : Bool} {ds : List Deed} {sd : Value} {FD : List Nat} {H : Heap} (hs : DeedsR own H ds [sd] FD) {n : List UInt8} {k : Nat} (hk : H[k]? = some ⟨.cells #[str n] 9 (0, 0), true, true⟩) :
    AC Try.prog ng 17 [.agg #[sd], .pointer (some ⟨k, 0, none⟩)] H fun v S' => v = .bool (decide (n ∈ namesOf ds)) ∧ S' = H := by
  obtain ⟨ad, zd, rfl⟩ := hs.form
  have hkl := (List.getElem?_eq_some_iff.1 hk).1
  have hkT : ∀ T : Heap, (H ++ T)[k]? = _ := fun T => (List.getElem?_append_left hkl).trans hk
  refine .flat (AC.go [(1, .take 0 <| .take 2 <| .one 1 [2] <| .one 3 [] <| .take 4 <| .done)] Try.func17 rfl Try.ntmps17 rfl ⟨mixed, by kernel_rfl⟩ ?_)
  simp +contextual (dsimp := false) [hkT]
  refine CallK.of ⟨_, Try.func19, rfl, rfl⟩ (implNames_ac (Rp.ext hs (Ext.app _ _))) ?_
  rintro v S' ⟨F', he, hr, hf⟩
  obtain ⟨a3, z3, rfl⟩ := hr.form
  have hkS : S'[k]? = _ := (he _ (by simp; omega)).trans (hkT _)
  simp +contextual (dsimp := false) [hkS]
  refine CallK.fl ⟨_, Try.func18, rfl, rfl⟩ (containsS_ac hr n) ?_
  simp +contextual (dsimp := false)
  exact (Ext.app _ _).trans he
theorem implCover_ac {own : Bool} {l : List (List Deed)} {s : Value} {F : List Nat} {H : Heap} (hs : AccsR own H l [s] F) {n : List UInt8} (_ : okS n) :
    AC Try.prog ng 7 [s, str n] H fun v S' => ∃ F', Ext H S' ∧ IntsR true S' (coverL l n) [v] F' ∧ Fresh H.length F' := by
  obtain ⟨a, z, rfl⟩ := hs.form
  refine AC.go [] Try.func7 rfl Try.ntmps7 rfl ⟨mixed, by kernel_rfl⟩ ?_
  unfold coverL
  simp +contextual (dsimp := false)
  refine CallK.of ⟨_, Try.func16, rfl, rfl⟩ (which_ac (p := coverB l n) (f := 17) (ys := [.pointer (some ⟨H.length, 0, none⟩)]) (Rp.ext hs (Ext.app _ _)) ⟨_, Try.func17, rfl, rfl⟩ ?_) ?_
  · intro H' he i hi sd FD hd
    rw [show coverB l n i = decide (n ∈ namesOf l[i]) by unfold coverB; rw [accAt_lt hi]]
    exact coverF_ac hd ((he _ (by simp)).trans (by simp))
  · rintro v S' ⟨F', he, hr, hf⟩
    simp +contextual (dsimp := false)
    exact ⟨(Ext.app _ _).trans he, F', hr, hf.weak (by simp)⟩
theorem specCover_ac {own : Bool} {l : List (List Deed)} {s : Value} {F : List Nat} {H : Heap} (hs : AccsR own H l [s] F) {n : List UInt8} (_ : okS n) :
    AC Try.prog ng 5 [s, str n] H fun v S' => ∃ F', Ext H S' ∧ IntsR true S' (coverL l n) [v] F' ∧ Fresh H.length F' := by
  obtain ⟨a, z, rfl⟩ := hs.form
  refine AC.go [] Try.func5 rfl Try.ntmps5 rfl ⟨mixed, by kernel_rfl⟩ ?_
  unfold coverL
  by_cases k1 : 50 < l.length
  · have k1' : (50 : Int) < l.length := by omega
    rw [if_pos k1]
    simp +contextual (dsimp := false) [k1']
    exact ⟨[H.length], SlR.mt (e := 3) (f := (0, 0)) (by simp), Fresh.one (by omega)⟩
  have k1' : ¬ (50 : Int) < l.length := by omega
  rw [if_neg k1]
  simp +contextual (dsimp := false) [k1']
  obtain ⟨H0, hH0⟩ : ∃ H0, H0 = H ++ [(⟨.cells #[] 3 (0, 0), true, true⟩ : Blk)] := ⟨_, rfl⟩
  have hx0 : Ext H H0 := by rw [hH0]; exact Ext.app _ _
  have hr0 : IntsR true H0 (whereB (coverB l n) 0) [.slice (some ⟨H.length, 0, none⟩) 0 1] [H.length] := SlR.mt (e := 3) (f := (0, 0)) (by rw [hH0]; simp)
  rw [← hH0]
  refine LoopA.up (σ := Nat × Heap × Value × List Nat) [0, 1, 5, 6] (fun x => [(5, x.2.2.1), (6, int x.1)]) (fun x => x.2.1)
    (fun y => y.1 ≤ l.length ∧ Ext H y.2.1 ∧ IntsR true y.2.1 (whereB (coverB l n) y.1) [y.2.2.1] y.2.2.2 ∧ Fresh H.length y.2.2.2) (fun y => l.length - y.1) (0, H0, _, _) rfl
    ⟨by simp, hx0, hr0, Fresh.one (Nat.le_refl _)⟩ ?_
  rintro ⟨i, hp, sv, FB⟩ ⟨gi, gx, gr, gf⟩
  dsimp only at gi gx gr gf
  have hle := gx.le
  have hwl := whereB_len (coverB l n) i
  simp +contextual (dsimp := false)
  refine ifA_dec (fun h3 => ?_) (fun h3 => ?_)
  · obtain ⟨id, o, cc, e, f, ow, cs, Fi, E⟩ := SlR.get (Rp.ext hs gx) i h3
    have hrep := E.rep
    obtain ⟨s1, rfl⟩ := List.length_eq_one_iff.1 (Rp.len hrep)
    obtain ⟨a1, z1, rfl⟩ := hrep.form
    simp +contextual (dsimp := false) [E.idx, E.goB, E.lt, E.le, E.ext]
    refine CallK.of ⟨_, Try.func14, rfl, rfl⟩ (specNames_ac hrep) ?_
    rintro v S' ⟨FN, he, hv, hfN⟩
    obtain ⟨aN, zN, rfl⟩ := hv.form
    have hws := whereB_s (coverB l n) i
    have hcb : coverB l n i = decide (n ∈ namesOf l[i]) := by unfold coverB; rw [accAt_lt h3]
    rw [hcb] at hws
    have hnd := namesOf_nodup l[i]
    have hnl := namesOf_len l[i]
    simp +contextual (dsimp := false)
    clear E
    have hxS := gx.trans he
    refine LoopA.up (σ := Nat × Heap × Value × List Nat) [0, 1, 5, 6, 7, 8] (fun x => [(5, x.2.2.1), (8, int x.1)]) (fun x => x.2.1)
      (fun y => y.1 ≤ (namesOf l[i]).length ∧ S'.length ≤ y.2.1.length ∧ (∀ j, j < S'.length → j ∉ FB → y.2.1[j]? = S'[j]?) ∧ IntsR true y.2.1 (whereB (coverB l n) i ++ if n ∈ (namesOf l[i]).take y.1 then [(i : Int)] else []) [y.2.2.1] y.2.2.2 ∧ Fresh H.length y.2.2.2 ∧ ∀ j ∈ y.2.2.2, j ∈ FB ∨ S'.length ≤ j) (fun y => (namesOf l[i]).length - y.1) (0, S', sv, FB) rfl
      ⟨by simp, Nat.le_refl _, fun _ _ _ => rfl, by simpa using Rp.ext gr he, gf, fun j hj => .inl hj⟩ ?_
    rintro ⟨k, h2, sv2, F2⟩ ⟨hk2, hl2, hx2, hr2, hf2, hs2⟩
    dsimp only at hk2 hl2 hx2 hr2 hf2 hs2
    have hdj : ∀ j ∈ FN, j < S'.length ∧ j ∉ FB := fun j hj => ⟨Rp.lt hv j hj, fun hm => by have h1 := Rp.lt gr j hm; have h2 := hfN.1 j hj; omega⟩
    have hvk := Rp.fr hv fun j hj => hx2 j (hdj j hj).1 (hdj j hj).2
    have hLe : H.length ≤ S'.length := hxS.le
    simp +contextual (dsimp := false)
    refine ifA_dec (fun h4 => ?_) (fun h4 => ?_)
    · obtain ⟨id', o', c', e', f', ow', cs', Fi', E'⟩ := SlR.get hvk k h4
      obtain ⟨rfl, rfl, hok'⟩ := E'.rep
      have hmt := mem_take_c (namesOf l[i]) h4 n
      have hc0 := E'.cell0 (by omega)
      simp +contextual (dsimp := false) [E'.idx, E'.goB, E'.le, hc0, wrap_succ (show k < 9223372036854775807 by omega)]
      refine ifA_dec (fun h5 => ?_) (fun h5 => ?_)
      · have hnt : n ∉ (namesOf l[i]).take k := h5 ▸ nodup_take hnd h4
        rw [if_neg hnt, List.append_nil] at hr2
        have hr2' := hr2
        obtain ⟨ar, zr, rfl⟩ := hr2.form
        refine AppK.one (R := intR') (ex := 3) (fx := (0, 0)) (ox := true) (base := H.length) (x := (i : Int)) (cx := [int i]) (Fx := []) slt24 und24 (Rp.ext hr2' (Ext.app _ _)) hf2 (by simp) ⟨rfl, rfl, by omega, by omega⟩ (Fresh.nil _) (by simp) (by simp; omega) (by omega) (by decide) ?_
        intro s2 H2 F3 q1 q2 q3 q4 q5
        simp only [List.length_append, List.length_cons, List.length_nil] at q3 q4 q5
        simp +contextual (dsimp := false) [wrap_succ (show k < 9223372036854775807 by omega)]
        refine LoopN.of (k + 1, H2, s2, F3) rfl ⟨h4, by dsimp only; omega, fun j hj hn => (q4 j (by omega) (fun hm => (hs2 j hm).elim hn (by omega))).trans ((List.getElem?_append_left (by omega)).trans (hx2 j hj hn)), ?_, q2, fun j hj => ?_⟩ (by dsimp only; omega)
        · dsimp only
          rw [if_pos (hmt.2 (.inr h5.symm))]
          exact q1
        · rcases q5 j hj with h | h | h
          · exact hs2 j h
          · cases h
          · right; omega
      · refine LoopN.of (k + 1, h2, sv2, F2) rfl ⟨h4, hl2, hx2, ?_, hf2, hs2⟩ (by dsimp only; omega)
        dsimp only
        have e9 : (n ∈ (namesOf l[i]).take (k + 1)) = (n ∈ (namesOf l[i]).take k) := propext (hmt.trans ⟨fun h => h.elim (fun h => h) fun h => absurd h.symm h5, .inl⟩)
        simp only [e9]
        exact hr2
    · rw [List.take_of_length_le (show (namesOf l[i]).length ≤ k by omega)] at hr2
      simp +contextual (dsimp := false) [wrap_succ (show i < 9223372036854775807 by omega)]
      refine LoopN.of (i + 1, h2, sv2, F2) rfl ⟨h3, fun j hj => (hx2 j (by omega) (fun hm => by have h1 := gf.1 j hm; omega)).trans (hxS j hj), ?_, hf2⟩ (by dsimp only; omega)
      dsimp only
      rw [hws]
      simpa using hr2
  · obtain rfl : i = l.length := by omega
    exact ⟨gx, FB, gr, gf⟩
end Go.Proofs.Ytephpieeibcihaa

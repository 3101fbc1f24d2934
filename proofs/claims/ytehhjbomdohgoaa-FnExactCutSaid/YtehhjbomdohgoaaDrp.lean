/- A space without a name; Drop. No condition. -/
import Derived.Test.YtehhjbomdohgoaaChk
set_option linter.unusedSimpArgs false
set_option linter.unusedVariables false
namespace Go.Proofs.Ytehhjbomdohgoaa
open Go Go.Am Go.Proofs
set_option maxRecDepth 20000
variable {ng : Nat}
theorem cloneIns_ac {l : List Ins} {s : Value} {F : List Nat} {H : Heap} (hs : CodeR true H l [s] F) (hl : l.length ≤ 1048576) : AC Try.prog ng 107 [s] H fun v S' => ∃ F', Ext H S' ∧ CodeR true S' l [v] F' ∧ Fresh H.length F' := by
  refine AC.go [] Try.func107 rfl Try.ntmps107 rfl ⟨mixed, by kernel_rfl⟩ ?_
  rcases hs.cases with ⟨rfl, rfl, rfl⟩ | ⟨id, off, rfl⟩
  · simp +contextual (dsimp := false) [bin_nlseq und61]
    exact ⟨[], SlR.nil, Fresh.nil _⟩
  · simp +contextual (dsimp := false) [bin_sleq und61]
    refine AppK.many (base := H.length) slt61 und61 (SlR.mt (R := InsR) (e := 139) (f := (0, 0)) (by simp)) (Fresh.one (n := H.length) (Nat.le_refl _)) (Rp.ext hs (Ext.app _ _)) (by rw [SlR.flatF hs]; exact Fresh.nil _) (by rw [SlR.flatF hs]; simp) (by simp) (by simp; omega) (by decide) ?_
    intro s' H' F' q1 q2 q3 q4 q5
    simp +contextual (dsimp := false)
    refine ⟨fun j hj => ?_, F', q1, q2⟩
    rw [q4 j (by simp; omega) (by simp; omega), get_ext hj]
theorem twin_ac {l : List Ins} {s : Value} {F : List Nat} {H : Heap} (hs : CodeR true H l [s] F) (hl : l.length ≤ 1048576) : AC Try.prog ng 73 [.agg #[s]] H fun v S' => ∃ s' F', v = .agg #[s'] ∧ Ext H S' ∧ CodeR true S' l [s'] F' ∧ Fresh H.length F' := by
  obtain ⟨a, z, rfl⟩ := hs.form
  refine AC.go [] Try.func73 rfl Try.ntmps73 rfl ⟨mixed, by kernel_rfl⟩ ?_
  simp +contextual (dsimp := false)
  refine CallK.of ⟨_, Try.func107, rfl, rfl⟩ (cloneIns_ac (Rp.ext hs (Ext.app _ _)) hl) ?_
  rintro v S' ⟨F', he, hv, hf⟩
  obtain ⟨a', z', rfl⟩ := hv.form
  obtain ⟨G, rfl⟩ := he.split
  try simp only [List.append_assoc, List.cons_append, List.nil_append] at hv ⊢
  simp [Fresh] at hf
  simp +contextual (dsimp := false)
  exact ⟨F', Rp.fr hv fun i hi => by exact fr_drop 2 (by rfl) (hf.1 i hi), fun i hi => by have := hf.1 i hi; omega, hf.2⟩
theorem l2Program_ac {own : Bool} {l : List Ins} {s : Value} {F : List Nat} {H : Heap} (hs : CodeR own H l [s] F) (hl : l.length ≤ 1048576) : AC Try.prog ng 80 [.agg #[s]] H fun v S' => ∃ s' F', v = .agg #[s'] ∧ Ext H S' ∧ CodeR true S' l [s'] F' ∧ Fresh H.length F' := by
  obtain ⟨a, z, rfl⟩ := hs.form
  refine AC.go [] Try.func80 rfl Try.ntmps80 rfl ⟨mixed, by kernel_rfl⟩ ?_
  simp +contextual (dsimp := false)
  refine AppK.many (base := H.length + 2) slt61 und61 (SlR.mt (R := InsR) (e := 139) (f := (0, 0)) (by simp)) (Fresh.one (n := H.length + 2) (Nat.le_refl _)) (Rp.ext hs (Ext.app _ _)) (by rw [SlR.flatF hs]; exact Fresh.nil _) (by rw [SlR.flatF hs]; simp) (by simp) (by simp; omega) (by decide) ?_
  intro s' H' F' q1 q2 q3 q4 q5
  obtain ⟨a', z', rfl⟩ := q1.form
  have e0 : H'[H.length]? = _ := (q4 H.length (by simp) (by simp)).trans (by simp; rfl)
  have e1 : H'[H.length + 1]? = _ := (q4 (H.length + 1) (by simp) (by simp)).trans (by simp; rfl)
  have hl1 : H.length + 1 < H'.length := by simp at q3; omega
  simp +contextual (dsimp := false) [goB_of e0, goB_of e1, goB_self hl1]
  refine ⟨fun j hj => ?_, F', Rp.fr q1 fun j hj => List.getElem?_set_ne (by rintro rfl; have := q2.1 _ hj; omega), q2.weak (by omega)⟩
  rw [List.getElem?_set_ne (by omega), q4 j (by simp; omega) (by simp; omega), get_ext hj]
theorem without_ac {x : Spc} {c : List Value} {F : List Nat} {H : Heap} (h : SpcR true H x c F) (n : List UInt8) (hx : x.sources.length + x.targets.length ≤ 1048576 ∧ ∀ t ∈ x.targets, t.action.length ≤ 1048576) :
    AC Try.prog ng 62 [.agg c.toArray, str n] H fun v S' => ∃ c' F', v = .tuple #[.agg c'.toArray, .bool (decide ((wout x n).sources.length + (wout x n).targets.length < x.sources.length + x.targets.length))] ∧ Ext H S' ∧ SpcR true S' (wout x n) c' F' ∧ Fresh H.length F' := by
  obtain ⟨s1, s2, G1, G2, rfl, rfl, hc1, hc2⟩ := h
  obtain ⟨a1, z1, rfl⟩ := hc1.form
  obtain ⟨a2, z2, rfl⟩ := hc2.form
  refine AC.go [(12, .take 0 <| .take 2 <| .take 4 <| .take 1 <| .take 3 <| .take 5 <| .one 6 [1, 3] <| .take 7 <| .one 8 [1] <| .one 9 [] <| .take 10 <| .one 11 [] <| .done), (14, .take 1 <| .take 4 <| .take 8 <| .take 11 <| .take 0 <| .take 2 <| .take 3 <| .take 5 <| .take 6 <| .take 7 <| .take 9 <| .take 10 <| .take 12 <| .take 13 <| .take 14 <| .take 15 <| .one 16 [2, 5, 9, 12] <| .take 17 <| .done)] Try.func62 rfl Try.ntmps62 rfl ⟨mixed, by kernel_rfl⟩ ?_
  simp +contextual (dsimp := false)
  obtain ⟨p, hp⟩ : ∃ p : Sou → Bool, p = fun s => decide (s.name ≠ n) := ⟨_, rfl⟩
  obtain ⟨p', hp'⟩ : ∃ p : Tgt → Bool, p = fun s => decide (s.name ≠ n) := ⟨_, rfl⟩
  refine LoopA.up (σ := Nat × Heap × Value × List Nat) [1, 2, 4, 6, 12, 13, 14] (fun x => [(14, int x.1)]) (fun x => x.2.1)
    (fun y => y.1 ≤ x.sources.length ∧ (∀ j, j < H.length → y.2.1[j]? = H[j]?) ∧ H.length + 3 ≤ y.2.1.length ∧
      y.2.1[H.length]? = some ⟨.cells #[.slice a1 x.sources.length z1, .slice a2 x.targets.length z2] 31 (0, 0), true, true⟩ ∧
      y.2.1[H.length + 1]? = some ⟨.cells #[.slice none 0 0, .slice none 0 0] 31 (0, 0), true, true⟩ ∧
      y.2.1[H.length + 2]? = some ⟨.cells #[y.2.2.1, .slice none 0 0] 31 (0, 0), true, true⟩ ∧
      SousR true y.2.1 ((x.sources.take y.1).filter p) [y.2.2.1] y.2.2.2 ∧ Fresh (H.length + 3) y.2.2.2)
    (fun y => x.sources.length - y.1) (0, _, .slice none 0 0, []) rfl ⟨by simp, fun j hj => get_ext hj, by simp, by simp, by simp, by simp, SlR.nil, Fresh.nil _⟩ ?_
  rintro ⟨i, hh, s, F⟩ ⟨hi, e0, hle, eb, er, eo, hv, hf⟩
  dsimp only at hi e0 hle eb er eo hv hf
  obtain ⟨a, z, rfl⟩ := hv.form
  have hb1 := hc1.bound
  simp +contextual (dsimp := false)
  refine ifA_dec (fun h3 => ?_) (fun h3 => ?_)
  · obtain ⟨id, o, c, e, f, ow, cs, Fi, E⟩ := SlR.get (Rp.fr hc1 (fun j hj => e0 j (Rp.lt hc1 j hj))) i h3
    obtain ⟨rfl, rfl, hok⟩ := E.rep
    have hfl := filter_take_len x.sources p i
    simp +contextual (dsimp := false) [E.idx, E.goB, E.le, E.lt, E.ext, Sou.c, goB_app eo, wrap_succ (show i < 9223372036854775807 by omega)]
    refine ifA_dec (fun h4 => ?_) (fun h4 => ?_)
    · refine LoopN.of (i + 1, hh ++ _, .slice a ((x.sources.take i).filter p).length z, F) rfl ⟨h3, fun j hj => (get_ext (by omega)).trans (e0 j hj), by simp; omega, (get_ext (by omega)).trans eb, (get_ext (by omega)).trans er, (get_ext (by omega)).trans eo, ?_, hf⟩ (by dsimp only; omega)
      dsimp only
      rw [filter_take_no h3 (by simp [hp, h4])]
      exact Rp.ext hv (Ext.app _ _)
    · refine AppK.one (base := H.length + 3) (x := x.sources[i]) (cx := x.sources[i].c) (Fx := []) slt28 und28 (Rp.ext hv (Ext.app _ _)) hf (by rw [List.getElem?_append_right (by omega), show hh.length + 1 - hh.length = 1 by omega]; rfl) ⟨rfl, rfl, hok⟩ (Fresh.nil _) (by simp) (by simp; omega) (by omega) (by decide) ?_
      intro s' H' F' q1 q2 q3 q4 q5
      obtain ⟨a', z', rfl⟩ := q1.form
      simp at q3
      have k : ∀ j, j < H.length + 3 → H'[j]? = hh[j]? := fun j hj => (q4 j (by simp; omega) (fun hm => by have := hf.1 j hm; omega)).trans (get_ext (by omega))
      have eo' := (k (H.length + 2) (by omega)).trans eo
      simp +contextual (dsimp := false) [goB_of eo', wrap_succ (show i < 9223372036854775807 by omega)]
      refine LoopN.of (i + 1, H'.set (H.length + 2) _, .slice a' (((x.sources.take i).filter p).length + 1) z', F') rfl ⟨h3, fun j hj => (List.getElem?_set_ne (by omega)).trans ((k j (by omega)).trans (e0 j hj)), by simp; omega, (List.getElem?_set_ne (by omega)).trans ((k _ (by omega)).trans eb), (List.getElem?_set_ne (by omega)).trans ((k _ (by omega)).trans er), by rw [List.getElem?_set_self (by omega)], ?_, q2⟩ (by dsimp only; omega)
      dsimp only
      rw [filter_take_yes h3 (by simp [hp, h4])]
      simp only [List.length_append, List.length_singleton] at q1
      exact Rp.fr q1 fun j hj => List.getElem?_set_ne (by rintro rfl; have := q2.1 _ hj; omega)
  · rw [List.take_of_length_le (by omega)] at hv eo
    simp +contextual (dsimp := false) [eb, eo]
    refine LoopA.up (σ := Nat × Heap × Value × List Nat) [1, 2, 4, 6, 30, 31, 32] (fun x => [(32, int x.1)]) (fun x => x.2.1)
      (fun y => y.1 ≤ x.targets.length ∧ (∀ j, j < H.length → y.2.1[j]? = H[j]?) ∧ H.length + 3 ≤ y.2.1.length ∧
        y.2.1[H.length]? = some ⟨.cells #[.slice a1 x.sources.length z1, .slice a2 x.targets.length z2] 31 (0, 0), true, true⟩ ∧
        y.2.1[H.length + 1]? = some ⟨.cells #[.slice none 0 0, .slice none 0 0] 31 (0, 0), true, true⟩ ∧
        y.2.1[H.length + 2]? = some ⟨.cells #[.slice a (x.sources.filter p).length z, y.2.2.1] 31 (0, 0), true, true⟩ ∧
        SousR true y.2.1 (x.sources.filter p) [.slice a (x.sources.filter p).length z] F ∧
        TgtsR true y.2.1 ((x.targets.take y.1).filter p') [y.2.2.1] y.2.2.2 ∧ Fresh (H.length + 3) y.2.2.2 ∧ ∀ j ∈ F, j ∉ y.2.2.2)
      (fun y => x.targets.length - y.1) (0, _, .slice none 0 0, []) rfl ⟨by simp, e0, hle, eb, er, eo, hv, SlR.nil, Fresh.nil _, by simp⟩ ?_
    have hF := hf
    clear hf hv eo er eb hle e0 hi h3
    rintro ⟨i, hh, s, F2⟩ ⟨hi, e0, hle, eb, er, eo, hv1, hv, hf, hd⟩
    dsimp only at hi e0 hle eb er eo hv1 hv hf hd
    obtain ⟨a', z', rfl⟩ := hv.form
    have hb2 := hc2.bound
    simp +contextual (dsimp := false)
    refine ifA_dec (fun h3 => ?_) (fun h3 => ?_)
    · obtain ⟨id, o, c, e, f, ow, cs, Fi, E⟩ := SlR.get (Rp.fr hc2 (fun j hj => e0 j (Rp.lt hc2 j hj))) i h3
      obtain ⟨hk, s1, rfl, hcc⟩ := E.rep
      have hcc0 := hcc
      obtain ⟨a3, z3, rfl⟩ := hcc.form
      have hfl := filter_take_len x.targets p' i
      simp +contextual (dsimp := false) [E.idx, E.goB, E.le, E.lt, E.ext, goB_app eo, wrap_succ (show i < 9223372036854775807 by omega)]
      refine ifA_dec (fun h4 => ?_) (fun h4 => ?_)
      · refine LoopN.of (i + 1, hh ++ _, .slice a' ((x.targets.take i).filter p').length z', F2) rfl ⟨h3, fun j hj => (get_ext (by omega)).trans (e0 j hj), by simp; omega, (get_ext (by omega)).trans eb, (get_ext (by omega)).trans er, (get_ext (by omega)).trans eo, Rp.ext hv1 (Ext.app _ _), ?_, hf, hd⟩ (by dsimp only; omega)
        dsimp only
        rw [filter_take_no h3 (by simp [hp', h4])]
        exact Rp.ext hv (Ext.app _ _)
      · refine CallK.of ⟨_, Try.func73, rfl, rfl⟩ (twin_ac (Rp.ext hcc0 (Ext.app _ _)) (hx.2 _ (List.getElem_mem h3))) ?_
        rintro v S1 ⟨u, D, rfl, he, hv2, hf2⟩
        obtain ⟨b1, y1, rfl⟩ := hv2.form
        obtain ⟨X1, rfl⟩ := he.split
        try simp only [List.append_assoc, List.cons_append, List.nil_append] at hv2 ⊢
        simp only [List.length_append, List.length_singleton] at hf2
        have eo1 : ∀ T : Heap, (hh ++ T)[H.length + 2]? = _ := fun T => (get_ext (by omega)).trans eo
        simp +contextual (dsimp := false) [eo1]
        refine AppK.one (R := TgtR true) (l := (x.targets.take i).filter p') (ex := 78) (fx := (0, 0)) (ox := true) (base := H.length + 3) (x := x.targets[i]) (cx := [str x.targets[i].name, .slice b1 x.targets[i].action.length y1]) (Fx := D) slt29 und29 ?_ hf ?_ ?_ (hf2.weak (by omega)) (fun j hj hm => by have := hf2.1 j hj; have := Rp.lt hv j hm; omega) ?_ ?_ (by decide) ?_
        · exact Rp.ext hv (Ext.app _ _)
        · simp
        · exact ⟨hk, _, rfl, Rp.ext hv2 (by first | exact Ext.app _ _ | exact Ext.refl _ | (refine Ext.of ?_; simp))⟩
        · simp; omega
        · omega
        intro s' H' F' q1 q2 q3 q4 q5
        obtain ⟨a'', z'', rfl⟩ := q1.form
        simp at q3
        have k : ∀ j, j < hh.length → j ∉ F2 → H'[j]? = hh[j]? := fun j hj hm => (q4 j (by simp; omega) hm).trans (get_ext (by omega))
        have k3 : ∀ j, j < H.length + 3 → H'[j]? = hh[j]? := fun j hj => k j (by omega) fun hm => by have := hf.1 j hm; omega
        have eo' := (k3 (H.length + 2) (by omega)).trans eo
        simp +contextual (dsimp := false) [eo', wrap_succ (show i < 9223372036854775807 by omega)]
        refine LoopN.of (i + 1, H'.set (H.length + 2) _, .slice a'' (((x.targets.take i).filter p').length + 1) z'', F') rfl ⟨h3, fun j hj => (List.getElem?_set_ne (by omega)).trans ((k3 j (by omega)).trans (e0 j hj)), by simp; omega, (List.getElem?_set_ne (by omega)).trans ((k3 _ (by omega)).trans eb), (List.getElem?_set_ne (by omega)).trans ((k3 _ (by omega)).trans er), by rw [List.getElem?_set_self (by omega)], ?_, ?_, q2, ?_⟩ (by dsimp only; omega)
        · exact Rp.fr hv1 fun j hj => (List.getElem?_set_ne (by have := hF.1 j hj; omega)).trans (k j (Rp.lt hv1 j hj) (hd j hj))
        · dsimp only
          rw [filter_take_yes h3 (by simp [hp', h4])]
          simp only [List.length_append, List.length_singleton] at q1
          exact Rp.fr q1 fun j hj => List.getElem?_set_ne (by rintro rfl; have := q2.1 _ hj; omega)
        · intro j hj hm
          have hlt := Rp.lt hv1 j hj
          rcases q5 j hm with h | h | h
          · exact hd j hj h
          · have := hf2.1 j h; omega
          · simp at h; omega
    · rw [List.take_of_length_le (by omega)] at hv eo
      have hw : IntKind.i64.wrap ((x.sources.length : Int) + x.targets.length) = (x.sources.length : Int) + x.targets.length := wrap_of _ (by omega) (by omega)
      have hfl1 := filter_take_len x.sources p x.sources.length
      have hfl2 := filter_take_len x.targets p' x.targets.length
      rw [List.take_of_length_le (Nat.le_refl _)] at hfl1 hfl2
      have hw2 : IntKind.i64.wrap (((x.sources.filter p).length : Int) + (x.targets.filter p').length) = ((x.sources.filter p).length : Int) + (x.targets.filter p').length := wrap_of _ (by omega) (by omega)
      have er2 : ∀ b : Blk, (hh.set (H.length + 1) b)[H.length + 1]? = some b := fun b => List.getElem?_set_self (by omega)
      simp +contextual (dsimp := false) [eb, eo, er, er2, hw, hw2]
      have hw3 : wout x n = ⟨x.sources.filter p, x.targets.filter p'⟩ := by rw [hp, hp']; rfl
      rw [hw3]
      refine ⟨_, ⟨rfl, ?_⟩, fun j hj => (List.getElem?_set_ne (by omega)).trans (e0 j hj), F ++ F2, ⟨_, _, F, F2, rfl, rfl, Rp.fr hv1 fun j hj => List.getElem?_set_ne (by have := hF.1 j hj; omega), Rp.fr hv fun j hj => List.getElem?_set_ne (by have := hf.1 j hj; omega)⟩, (hF.app hf hd).weak (by omega)⟩
      dsimp only
      omega
theorem l2Without_ac {own : Bool} {x : Spc} {c : List Value} {F : List Nat} {H : Heap} (h : SpcR own H x c F) (n : List UInt8) (hx : x.sources.length + x.targets.length ≤ 1048576 ∧ ∀ t ∈ x.targets, t.action.length ≤ 1048576) :
    AC Try.prog ng 61 [.agg c.toArray, str n] H fun v S' => ∃ c' F', v = .agg c'.toArray ∧ Ext H S' ∧ SpcR true S' (wout x n) c' F' ∧ Fresh H.length F' := by
  obtain ⟨s1, s2, G1, G2, rfl, rfl, hc1, hc2⟩ := h
  obtain ⟨a1, z1, rfl⟩ := hc1.form
  obtain ⟨a2, z2, rfl⟩ := hc2.form
  refine AC.go [(6, .take 0 <| .take 2 <| .take 4 <| .take 1 <| .take 3 <| .take 5 <| .take 6 <| .one 7 [1] <| .one 8 [] <| .take 9 <| .one 10 [] <| .done), (11, .take 0 <| .take 2 <| .take 4 <| .take 8 <| .take 10 <| .take 1 <| .take 3 <| .take 5 <| .take 6 <| .take 7 <| .take 9 <| .take 11 <| .take 12 <| .take 13 <| .one 14 [1, 3, 7] <| .take 15 <| .one 16 [1] <| .one 17 [] <| .take 18 <| .one 19 [] <| .done)] Try.func61 rfl Try.ntmps61 rfl ⟨mixed, by kernel_rfl⟩ ?_
  simp +contextual (dsimp := false)
  obtain ⟨p, hp⟩ : ∃ p : Sou → Bool, p = fun s => decide (s.name ≠ n) := ⟨_, rfl⟩
  obtain ⟨p', hp'⟩ : ∃ p : Tgt → Bool, p = fun s => decide (s.name ≠ n) := ⟨_, rfl⟩
  refine LoopA.up (σ := Nat × Heap × Value × List Nat) [1, 2, 4, 5, 6] (fun x => [(6, int x.1)]) (fun x => x.2.1)
    (fun y => y.1 ≤ x.sources.length ∧ (∀ j, j < H.length → y.2.1[j]? = H[j]?) ∧ H.length + 3 ≤ y.2.1.length ∧
      y.2.1[H.length]? = some ⟨.cells #[.slice a1 x.sources.length z1, .slice a2 x.targets.length z2] 31 (0, 0), true, true⟩ ∧
      y.2.1[H.length + 1]? = some ⟨.cells #[.slice none 0 0, .slice none 0 0] 31 (0, 0), true, true⟩ ∧
      y.2.1[H.length + 2]? = some ⟨.cells #[y.2.2.1, .slice none 0 0] 31 (0, 0), true, true⟩ ∧
      SousR true y.2.1 ((x.sources.take y.1).filter p) [y.2.2.1] y.2.2.2 ∧ Fresh (H.length + 3) y.2.2.2)
    (fun y => x.sources.length - y.1) (0, _, .slice none 0 0, []) rfl ⟨by simp, fun j hj => get_ext hj, by simp, by simp, by simp, by simp, SlR.nil, Fresh.nil _⟩ ?_
  rintro ⟨i, hh, s, F⟩ ⟨hi, e0, hle, eb, er, eo, hv, hf⟩
  dsimp only at hi e0 hle eb er eo hv hf
  obtain ⟨a, z, rfl⟩ := hv.form
  have hb1 := hc1.bound
  simp +contextual (dsimp := false) [eb]
  refine ifA_dec (fun h3 => ?_) (fun h3 => ?_)
  · obtain ⟨id, o, c, e, f, ow, cs, Fi, E⟩ := SlR.get (Rp.fr hc1 (fun j hj => e0 j (Rp.lt hc1 j hj))) i h3
    obtain ⟨rfl, rfl, hok⟩ := E.rep
    have hfl := filter_take_len x.sources p i
    simp +contextual (dsimp := false) [E.idx, E.goB, E.blk, E.le, E.lt, E.ext, E.cell0, Sou.c, eb, eo, goB_app eo, wrap_succ (show i < 9223372036854775807 by omega)]
    refine ifA_dec (fun h4 => ?_) (fun h4 => ?_)
    · refine LoopN.of (i + 1, hh, .slice a ((x.sources.take i).filter p).length z, F) rfl ⟨h3, e0, hle, eb, er, eo, ?_, hf⟩ (by dsimp only; omega)
      dsimp only
      rw [filter_take_no h3 (by simp [hp, h4])]
      exact hv
    · refine AppK.one (R := SouR) (l := (x.sources.take i).filter p) (ex := 76) (fx := (0, 0)) (ox := true) (base := H.length + 3) (x := x.sources[i]) (cx := x.sources[i].c) (Fx := []) slt28 und28 ?_ hf ?_ ⟨rfl, rfl, hok⟩ (Fresh.nil _) (by simp) ?_ ?_ (by decide) ?_
      · exact Rp.ext hv (Ext.app _ _)
      · simp [Sou.c]
      · simp; omega
      · omega
      intro s' H' F' q1 q2 q3 q4 q5
      obtain ⟨a', z', rfl⟩ := q1.form
      simp at q3
      have k : ∀ j, j < H.length + 3 → H'[j]? = hh[j]? := fun j hj => (q4 j (by simp; omega) (fun hm => by have := hf.1 j hm; omega)).trans (get_ext (by omega))
      have eo' := (k (H.length + 2) (by omega)).trans eo
      simp +contextual (dsimp := false) [eo', wrap_succ (show i < 9223372036854775807 by omega)]
      refine LoopN.of (i + 1, H'.set (H.length + 2) _, .slice a' (((x.sources.take i).filter p).length + 1) z', F') rfl ⟨h3, fun j hj => (List.getElem?_set_ne (by omega)).trans ((k j (by omega)).trans (e0 j hj)), by simp; omega, (List.getElem?_set_ne (by omega)).trans ((k _ (by omega)).trans eb), (List.getElem?_set_ne (by omega)).trans ((k _ (by omega)).trans er), by rw [List.getElem?_set_self (by omega)], ?_, q2⟩ (by dsimp only; omega)
      dsimp only
      rw [filter_take_yes h3 (by simp [hp, h4])]
      simp only [List.length_append, List.length_singleton] at q1
      exact Rp.fr q1 fun j hj => List.getElem?_set_ne (by rintro rfl; have := q2.1 _ hj; omega)
  · rw [List.take_of_length_le (by omega)] at hv eo
    refine LoopA.up (σ := Nat × Heap × Value × List Nat) [1, 2, 4, 5, 7] (fun x => [(7, int x.1)]) (fun x => x.2.1)
      (fun y => y.1 ≤ x.targets.length ∧ (∀ j, j < H.length → y.2.1[j]? = H[j]?) ∧ H.length + 3 ≤ y.2.1.length ∧
        y.2.1[H.length]? = some ⟨.cells #[.slice a1 x.sources.length z1, .slice a2 x.targets.length z2] 31 (0, 0), true, true⟩ ∧
        y.2.1[H.length + 1]? = some ⟨.cells #[.slice none 0 0, .slice none 0 0] 31 (0, 0), true, true⟩ ∧
        y.2.1[H.length + 2]? = some ⟨.cells #[.slice a (x.sources.filter p).length z, y.2.2.1] 31 (0, 0), true, true⟩ ∧
        SousR true y.2.1 (x.sources.filter p) [.slice a (x.sources.filter p).length z] F ∧
        TgtsR true y.2.1 ((x.targets.take y.1).filter p') [y.2.2.1] y.2.2.2 ∧ Fresh (H.length + 3) y.2.2.2 ∧ ∀ j ∈ F, j ∉ y.2.2.2)
      (fun y => x.targets.length - y.1) (0, _, .slice none 0 0, []) rfl ⟨by simp, e0, hle, eb, er, eo, hv, SlR.nil, Fresh.nil _, by simp⟩ ?_
    have hF := hf
    clear hf hv eo er eb hle e0 hi h3
    rintro ⟨i, hh, s, F2⟩ ⟨hi, e0, hle, eb, er, eo, hv1, hv, hf, hd⟩
    dsimp only at hi e0 hle eb er eo hv1 hv hf hd
    obtain ⟨a', z', rfl⟩ := hv.form
    have hb2 := hc2.bound
    simp +contextual (dsimp := false) [eb]
    refine ifA_dec (fun h3 => ?_) (fun h3 => ?_)
    · obtain ⟨id, o, c, e, f, ow, cs, Fi, E⟩ := SlR.get (Rp.fr hc2 (fun j hj => e0 j (Rp.lt hc2 j hj))) i h3
      obtain ⟨hk, s1, rfl, hcc⟩ := E.rep
      have hcc0 := hcc
      obtain ⟨a3, z3, rfl⟩ := hcc.form
      have hfl := filter_take_len x.targets p' i
      simp +contextual (dsimp := false) [E.idx, E.goB, E.blk, E.le, E.lt, E.ext, E.cell0, E.cell 1 (by omega), E.part 1 1 (by omega), eb, eo, goB_app eo, wrap_succ (show i < 9223372036854775807 by omega)]
      refine ifA_dec (fun h4 => ?_) (fun h4 => ?_)
      · refine LoopN.of (i + 1, hh, .slice a' ((x.targets.take i).filter p').length z', F2) rfl ⟨h3, e0, hle, eb, er, eo, hv1, ?_, hf, hd⟩ (by dsimp only; omega)
        dsimp only
        rw [filter_take_no h3 (by simp [hp', h4])]
        exact hv
      · refine CallK.of ⟨_, Try.func80, rfl, rfl⟩ (l2Program_ac hcc0 (hx.2 _ (List.getElem_mem h3))) ?_
        rintro v S1 ⟨u, D, rfl, he, hv2, hf2⟩
        obtain ⟨b1, y1, rfl⟩ := hv2.form
        obtain ⟨X1, rfl⟩ := he.split
        try simp only [List.append_assoc, List.cons_append, List.nil_append] at hv2 ⊢
        have eo1 : ∀ T : Heap, (hh ++ T)[H.length + 2]? = _ := fun T => (get_ext (by omega)).trans eo
        have eb1 : ∀ T : Heap, (hh ++ T)[H.length]? = _ := fun T => (get_ext (by omega)).trans eb
        have ek1 : ∀ T : Heap, (hh ++ T)[id]? = _ := fun T => (get_ext E.lt).trans E.blk
        simp +contextual (dsimp := false) [eo1, eb1, ek1, E.idx, E.le, E.cell0, E.cell 1 (by omega), E.part 1 1 (by omega)]
        refine AppK.one (R := TgtR true) (l := (x.targets.take i).filter p') (ex := 78) (fx := (0, 0)) (ox := true) (base := H.length + 3) (x := x.targets[i]) (cx := [str x.targets[i].name, .slice b1 x.targets[i].action.length y1]) (Fx := D) slt29 und29 ?_ hf ?_ ?_ (hf2.weak (by omega)) (fun j hj hm => by have := hf2.1 j hj; have := Rp.lt hv j hm; omega) ?_ ?_ (by decide) ?_
        · exact Rp.ext hv (Ext.app _ _)
        · simp
        · exact ⟨hk, _, rfl, Rp.ext hv2 (by first | exact Ext.app _ _ | exact Ext.refl _ | (refine Ext.of ?_; simp))⟩
        · simp; omega
        · omega
        intro s' H' F' q1 q2 q3 q4 q5
        obtain ⟨a'', z'', rfl⟩ := q1.form
        simp at q3
        have k : ∀ j, j < hh.length → j ∉ F2 → H'[j]? = hh[j]? := fun j hj hm => (q4 j (by simp; omega) hm).trans (get_ext (by omega))
        have k3 : ∀ j, j < H.length + 3 → H'[j]? = hh[j]? := fun j hj => k j (by omega) fun hm => by have := hf.1 j hm; omega
        have eo' := (k3 (H.length + 2) (by omega)).trans eo
        simp +contextual (dsimp := false) [eo', wrap_succ (show i < 9223372036854775807 by omega)]
        refine LoopN.of (i + 1, H'.set (H.length + 2) _, .slice a'' (((x.targets.take i).filter p').length + 1) z'', F') rfl ⟨h3, fun j hj => (List.getElem?_set_ne (by omega)).trans ((k3 j (by omega)).trans (e0 j hj)), by simp; omega, (List.getElem?_set_ne (by omega)).trans ((k3 _ (by omega)).trans eb), (List.getElem?_set_ne (by omega)).trans ((k3 _ (by omega)).trans er), by rw [List.getElem?_set_self (by omega)], ?_, ?_, q2, ?_⟩ (by dsimp only; omega)
        · exact Rp.fr hv1 fun j hj => (List.getElem?_set_ne (by have := hF.1 j hj; omega)).trans (k j (Rp.lt hv1 j hj) (hd j hj))
        · dsimp only
          rw [filter_take_yes h3 (by simp [hp', h4])]
          simp only [List.length_append, List.length_singleton] at q1
          exact Rp.fr q1 fun j hj => List.getElem?_set_ne (by rintro rfl; have := q2.1 _ hj; omega)
        · intro j hj hm
          have hlt := Rp.lt hv1 j hj
          rcases q5 j hm with h | h | h
          · exact hd j hj h
          · have := hf2.1 j h; omega
          · simp at h; omega
    · rw [List.take_of_length_le (by omega)] at hv eo
      have er2 : ∀ b : Blk, (hh.set (H.length + 1) b)[H.length + 1]? = some b := fun b => List.getElem?_set_self (by omega)
      simp +contextual (dsimp := false) [eb, eo, er, er2]
      have hw3 : wout x n = ⟨x.sources.filter p, x.targets.filter p'⟩ := by rw [hp, hp']; rfl
      rw [hw3]
      refine ⟨fun j hj => (List.getElem?_set_ne (by omega)).trans (e0 j hj), F ++ F2, ⟨_, _, F, F2, rfl, rfl, Rp.fr hv1 fun j hj => List.getElem?_set_ne (by have := hF.1 j hj; omega), Rp.fr hv fun j hj => List.getElem?_set_ne (by have := hf.1 j hj; omega)⟩, (hF.app hf hd).weak (by omega)⟩
theorem SpcR.mt {own : Bool} {H : Heap} : SpcR own H ⟨[], []⟩ [.slice none 0 0, .slice none 0 0] [] := ⟨_, _, [], [], rfl, rfl, SlR.nil, SlR.nil⟩
theorem wout_hx {x : Spc} (h : checkSpace x = 0) : x.sources.length + x.targets.length ≤ 1048576 ∧ ∀ t ∈ x.targets, t.action.length ≤ 1048576 := by
  obtain ⟨h1, _, _, _, _, _, _, h2⟩ := checkSpace_ok h
  exact ⟨by omega, fun t ht => by have := (validP_len (h2 t ht)).2; omega⟩
theorem implDrop_ac {x : Spc} {c : List Value} {F : List Nat} {H : Heap} (h : SpcR true H x c F) {n : List UInt8} (hn : okS n) :
    AC Try.prog ng 21 [.agg c.toArray, str n] H fun v S' => ∃ c' F', v = .tuple #[.agg c'.toArray, int (drop x n).2] ∧ Ext H S' ∧ SpcR true S' (drop x n).1 c' F' ∧ Fresh H.length F' := by
  have h0 := h
  obtain ⟨s1, s2, G1, G2, rfl, rfl, hc1, hc2⟩ := h
  obtain ⟨a1, z1, rfl⟩ := hc1.form
  obtain ⟨a2, z2, rfl⟩ := hc2.form
  refine AC.go [] Try.func21 rfl Try.ntmps21 rfl ⟨mixed, by kernel_rfl⟩ ?_
  simp +contextual (dsimp := false)
  refine CallK.fl ⟨_, Try.func13, rfl, rfl⟩ (implCheckSpace_ac (Rp.ext h0 (Ext.app _ _))) ?_
  simp +contextual (dsimp := false)
  refine ifA_dec (fun h1 => ?_) (fun h1 => ?_)
  rotate_left
  · rw [drop, if_pos h1]
    exact ⟨_, ⟨rfl, rfl⟩, [], SpcR.mt, Fresh.nil _⟩
  refine CallK.fl ⟨_, Try.func48, rfl, rfl⟩ (isName_ac n hn _) ?_
  simp +contextual (dsimp := false)
  refine ifA_intro (fun h2 => ?_) (fun h2 => ?_)
  rotate_left
  · rw [drop, if_neg (by simpa using h1), if_pos h2]
    exact ⟨_, ⟨rfl, rfl⟩, [], SpcR.mt, Fresh.nil _⟩
  refine CallK.of ⟨_, Try.func62, rfl, rfl⟩ (without_ac (Rp.ext h0 (Ext.app _ _)) n (wout_hx h1)) ?_
  rintro v S1 ⟨c1, D, rfl, he, hv, hf⟩
  obtain ⟨u1, u2, D1, D2, rfl, rfl, g1, g2⟩ := hv
  obtain ⟨b1, y1, rfl⟩ := g1.form
  obtain ⟨b2, y2, rfl⟩ := g2.form
  obtain ⟨X1, rfl⟩ := he.split
  try simp only [List.append_assoc, List.cons_append, List.nil_append] at g1 ⊢
  try simp only [List.append_assoc, List.cons_append, List.nil_append] at g2 ⊢
  simp [Fresh] at hf
  have hl := wout_lt x n
  obtain ⟨q, hq⟩ : ∃ q : Bool, decide ((wout x n).sources.length + (wout x n).targets.length < x.sources.length + x.targets.length) = q := ⟨_, rfl⟩
  simp +contextual (dsimp := false) [hq]
  refine ifA_intro (fun h3 => ?_) (fun h3 => ?_)
  · have h4 : n ∈ sNames x ∨ n ∈ tNames x := hl.1 (by rw [h3] at hq; exact of_decide_eq_true hq)
    rw [drop, if_neg (by simpa using h1), if_neg (by simp [h2]), if_neg (fun hc => hc h4)]
    refine ⟨_, ⟨rfl, rfl⟩, D1 ++ D2, ⟨_, _, D1, D2, rfl, rfl, Rp.fr g1 fun j hj => fr_pre (m := 2) (by have := hf.1 j (.inl hj); omega) (Rp.lt g1 j hj) (by exact List.prefix_append _ _), Rp.fr g2 fun j hj => fr_pre (m := 2) (by have := hf.1 j (.inr hj); omega) (Rp.lt g2 j hj) (by exact List.prefix_append _ _)⟩, fun j hj => ?_, ?_⟩
    · simp only [List.mem_append] at hj
      have := hf.1 j hj
      omega
    · simpa [List.nodup_append] using hf.2
  · have h4 : ¬ (n ∈ sNames x ∨ n ∈ tNames x) := fun hc => by
      rw [h3] at hq
      exact of_decide_eq_false hq (hl.2 hc)
    rw [drop, if_neg (by simpa using h1), if_neg (by simp [h2]), if_pos h4]
    exact ⟨_, ⟨rfl, rfl⟩, [], SpcR.mt, Fresh.nil _⟩
theorem specDrop_ac {own : Bool} {x : Spc} {c : List Value} {F : List Nat} {H : Heap} (h : SpcR own H x c F) {n : List UInt8} (hn : okS n) :
    AC Try.prog ng 20 [.agg c.toArray, str n] H fun v S' => ∃ c' F', v = .tuple #[.agg c'.toArray, int (drop x n).2] ∧ Ext H S' ∧ SpcR true S' (drop x n).1 c' F' ∧ Fresh H.length F' := by
  have h0 := h
  obtain ⟨s1, s2, G1, G2, rfl, rfl, hc1, hc2⟩ := h
  obtain ⟨a1, z1, rfl⟩ := hc1.form
  obtain ⟨a2, z2, rfl⟩ := hc2.form
  refine AC.go [] Try.func20 rfl Try.ntmps20 rfl ⟨mixed, by kernel_rfl⟩ ?_
  simp +contextual (dsimp := false)
  refine CallK.fl ⟨_, Try.func11, rfl, rfl⟩ (specCheckSpace_ac (Rp.ext h0 (Ext.app _ _))) ?_
  simp +contextual (dsimp := false)
  refine ifA_dec (fun h1 => ?_) (fun h1 => ?_)
  rotate_left
  · rw [drop, if_pos h1]
    exact ⟨_, ⟨rfl, rfl⟩, [], SpcR.mt, Fresh.nil _⟩
  refine CallK.fl ⟨_, Try.func43, rfl, rfl⟩ (l1NameOk_ac n hn _) ?_
  simp +contextual (dsimp := false)
  refine ifA_intro (fun h2 => ?_) (fun h2 => ?_)
  rotate_left
  · rw [drop, if_neg (by simpa using h1), if_pos h2]
    exact ⟨_, ⟨rfl, rfl⟩, [], SpcR.mt, Fresh.nil _⟩
  refine CallK.fl ⟨_, Try.func60, rfl, rfl⟩ (l2Source_ac (Rp.ext h0 (Ext.app _ _)) n) ?_
  simp +contextual (dsimp := false) [findI_neg]
  refine ifA_dec (fun h3 => ?_) (fun h3 => ?_)
  · refine CallK.of ⟨_, Try.func61, rfl, rfl⟩ (l2Without_ac (Rp.ext h0 (Ext.app _ _)) n (wout_hx h1)) ?_
    rintro v S1 ⟨c1, D, rfl, he, hv, hf⟩
    obtain ⟨u1, u2, D1, D2, rfl, rfl, g1, g2⟩ := hv
    obtain ⟨b1, y1, rfl⟩ := g1.form
    obtain ⟨b2, y2, rfl⟩ := g2.form
    obtain ⟨X1, rfl⟩ := he.split
    try simp only [List.append_assoc, List.cons_append, List.nil_append] at g1 ⊢
    try simp only [List.append_assoc, List.cons_append, List.nil_append] at g2 ⊢
    simp [Fresh] at hf
    simp +contextual (dsimp := false)
    rw [drop, if_neg (by simpa using h1), if_neg (by simp [h2]), if_neg (fun hc => hc (.inl h3))]
    refine ⟨_, ⟨rfl, rfl⟩, D1 ++ D2, ⟨_, _, D1, D2, rfl, rfl, Rp.fr g1 fun j hj => fr_pre (m := 2) (by have := hf.1 j (.inl hj); omega) (Rp.lt g1 j hj) (by exact List.prefix_rfl), Rp.fr g2 fun j hj => fr_pre (m := 2) (by have := hf.1 j (.inr hj); omega) (Rp.lt g2 j hj) (by exact List.prefix_rfl)⟩, fun j hj => ?_, ?_⟩
    · simp only [List.mem_append] at hj
      have := hf.1 j hj
      omega
    · simpa [List.nodup_append] using hf.2
  refine CallK.fl ⟨_, Try.func44, rfl, rfl⟩ (l2Target_ac (Rp.ext h0 (Ext.app _ _)) n) ?_
  simp +contextual (dsimp := false) [findI_neg]
  refine ifA_dec (fun h3' => ?_) (fun h3' => ?_)
  · refine CallK.of ⟨_, Try.func61, rfl, rfl⟩ (l2Without_ac (Rp.ext h0 (Ext.app _ _)) n (wout_hx h1)) ?_
    rintro v S1 ⟨c1, D, rfl, he, hv, hf⟩
    obtain ⟨u1, u2, D1, D2, rfl, rfl, g1, g2⟩ := hv
    obtain ⟨b1, y1, rfl⟩ := g1.form
    obtain ⟨b2, y2, rfl⟩ := g2.form
    obtain ⟨X1, rfl⟩ := he.split
    try simp only [List.append_assoc, List.cons_append, List.nil_append] at g1 ⊢
    try simp only [List.append_assoc, List.cons_append, List.nil_append] at g2 ⊢
    simp [Fresh] at hf
    simp +contextual (dsimp := false)
    rw [drop, if_neg (by simpa using h1), if_neg (by simp [h2]), if_neg (fun hc => hc (.inr h3'))]
    refine ⟨_, ⟨rfl, rfl⟩, D1 ++ D2, ⟨_, _, D1, D2, rfl, rfl, Rp.fr g1 fun j hj => fr_pre (m := 2) (by have := hf.1 j (.inl hj); omega) (Rp.lt g1 j hj) (by exact List.prefix_rfl), Rp.fr g2 fun j hj => fr_pre (m := 2) (by have := hf.1 j (.inr hj); omega) (Rp.lt g2 j hj) (by exact List.prefix_rfl)⟩, fun j hj => ?_, ?_⟩
    · simp only [List.mem_append] at hj
      have := hf.1 j hj
      omega
    · simpa [List.nodup_append] using hf.2
  · rw [drop, if_neg (by simpa using h1), if_neg (by simp [h2]), if_pos (fun hc => hc.elim h3 h3')]
    exact ⟨_, ⟨rfl, rfl⟩, [], SpcR.mt, Fresh.nil _⟩
end Go.Proofs.Ytehhjbomdohgoaa

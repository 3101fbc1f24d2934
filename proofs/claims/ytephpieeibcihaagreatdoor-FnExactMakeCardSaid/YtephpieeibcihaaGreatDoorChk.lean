import Derived.Test.YtephpieeibcihaaGreatDoorNam
set_option linter.all false
namespace Go.Proofs.YtephpieeibcihaaGreatDoor
open Go Go.Am Go.Proofs
set_option maxRecDepth 20000
variable {ng : Nat}
theorem l2Target_ac {own : Bool} {x : Spc} {c : List Value} {F : List Nat} {H : Heap} (h : SpcR own H x c F) (n : List UInt8) : AC Tryz.prog ng 77 [.agg c.toArray, str n] H fun v S' => v = int (findI (tNames x) n) ∧ S' = H := by
  obtain ⟨s1, s2, G1, G2, rfl, rfl, hc1, hc2⟩ := h
  obtain ⟨a1, z1, rfl⟩ := hc1.form
  obtain ⟨a2, z2, rfl⟩ := hc2.form
  have hb := hc2.bound
  refine .flat (AC.go [] Tryz.func77 rfl Tryz.ntmps77 rfl ⟨mixed, by kernel_rfl⟩ ?_)
  simp +contextual (dsimp := false)
  refine LoopA.upc (σ := Nat) [1, 2, 5] (fun i => [(5, int i)]) (fun i => i ≤ x.targets.length ∧ ∀ y ∈ (tNames x).take i, y ≠ n) (fun i => x.targets.length - i) 0 rfl (by simp) ?_
  rintro i ⟨hi, hv⟩
  simp +contextual (dsimp := false)
  have hl : (tNames x).length = x.targets.length := by simp [tNames]
  refine ifA_dec (fun h3 => ?_) (fun h3 => ?_)
  · obtain ⟨id, o, c, e, f, ow, cs, Fi, E⟩ := SlR.get hc2 i h3
    obtain ⟨hk, s1, rfl, hc1⟩ := E.rep
    simp +contextual (dsimp := false) [E.idx, E.goB, E.le, E.lt, E.cell0, wrap_succ (show i < 9223372036854775807 by omega)]
    have hn : (tNames x)[i]'(by omega) = x.targets[i].name := by simp [tNames]
    refine ifA_dec (fun h4 => ?_) (fun h4 => ?_)
    · rw [findI_hit (by omega) (hn.trans h4) hv]
    · exact LoopN.of (i + 1) rfl ⟨h3, all_take hv (by omega) (by rw [hn]; exact h4)⟩ (by omega)
  · rw [findI_miss (all_end hv (by omega))]
    try simp
theorem l2Source_ac {own : Bool} {x : Spc} {c : List Value} {F : List Nat} {H : Heap} (h : SpcR own H x c F) (n : List UInt8) : AC Tryz.prog ng 76 [.agg c.toArray, str n] H fun v S' => v = int (findI (sNames x) n) ∧ S' = H := by
  obtain ⟨s1, s2, G1, G2, rfl, rfl, hc1, hc2⟩ := h
  obtain ⟨a1, z1, rfl⟩ := hc1.form
  obtain ⟨a2, z2, rfl⟩ := hc2.form
  have hb := hc1.bound
  refine .flat (AC.go [] Tryz.func76 rfl Tryz.ntmps76 rfl ⟨mixed, by kernel_rfl⟩ ?_)
  simp +contextual (dsimp := false)
  refine LoopA.upc (σ := Nat) [1, 2, 5] (fun i => [(5, int i)]) (fun i => i ≤ x.sources.length ∧ ∀ y ∈ (sNames x).take i, y ≠ n) (fun i => x.sources.length - i) 0 rfl (by simp) ?_
  rintro i ⟨hi, hv⟩
  simp +contextual (dsimp := false)
  have hl : (sNames x).length = x.sources.length := by simp [sNames]
  refine ifA_dec (fun h3 => ?_) (fun h3 => ?_)
  · obtain ⟨id, o, c, e, f, ow, cs, Fi, E⟩ := SlR.get hc1 i h3
    obtain ⟨rfl, rfl, hok⟩ := E.rep
    simp +contextual (dsimp := false) [E.idx, E.goB, E.le, E.lt, E.cell0, Sou.c, wrap_succ (show i < 9223372036854775807 by omega)]
    have hn : (sNames x)[i]'(by omega) = x.sources[i].name := by simp [sNames]
    refine ifA_dec (fun h4 => ?_) (fun h4 => ?_)
    · rw [findI_hit (by omega) (hn.trans h4) hv]
    · exact LoopN.of (i + 1) rfl ⟨h3, all_take hv (by omega) (by rw [hn]; exact h4)⟩ (by omega)
  · rw [findI_miss (all_end hv (by omega))]
    try simp
theorem specCheckSpace_ac {own : Bool} {x : Spc} {c : List Value} {F : List Nat} {H : Heap} (h : SpcR own H x c F) : AC Tryz.prog ng 57 [.agg c.toArray] H fun v S' => v = int (checkSpace x) ∧ S' = H := by
  have h0 := h
  obtain ⟨s1, s2, G1, G2, rfl, rfl, hc1, hc2⟩ := h
  obtain ⟨a1, z1, rfl⟩ := hc1.form
  obtain ⟨a2, z2, rfl⟩ := hc2.form
  have hb1 := hc1.bound
  have hb2 := hc2.bound
  have hl1 : (sNames x).length = x.sources.length := by simp [sNames]
  have hl2 : (tNames x).length = x.targets.length := by simp [tNames]
  have hn1 : ∀ i (h : i < x.sources.length), (sNames x)[i]'(by omega) = x.sources[i].name := fun i h => by simp [sNames]
  have hn2 : ∀ i (h : i < x.targets.length), (tNames x)[i]'(by omega) = x.targets[i].name := fun i h => by simp [tNames]
  refine .flat (AC.go [] Tryz.func57 rfl Tryz.ntmps57 rfl ⟨mixed, by kernel_rfl⟩ ?_)
  have hw : IntKind.i64.wrap ((x.sources.length : Int) + x.targets.length) = ((x.sources.length + x.targets.length : Nat) : Int) := (wrap_of ((x.sources.length : Int) + x.targets.length) (by omega) (by omega)).trans (by omega)
  simp +contextual (dsimp := false) [-Int.natCast_add, hw]
  refine ifA_dec (fun h1 => ?_) (fun h1 => ?_)
  · rw [checkSpace, if_pos (by omega)]
    try trivial
  have k1 : ¬ 200 < x.sources.length + x.targets.length := by omega
  refine LoopA.upc (σ := Nat) [1, 4, 5] (fun i => [(5, int i)]) (fun i => i ≤ x.sources.length ∧ ∀ y ∈ x.sources.take i, nameOk y.name = true) (fun i => x.sources.length - i) 0 rfl (by simp) ?_
  rintro i ⟨hi, hv⟩
  simp +contextual (dsimp := false)
  refine ifA_dec (fun h3 => ?_) (fun h3 => ?_)
  · obtain ⟨id, o, c, e, f, ow, cs, Fi, E⟩ := SlR.get hc1 i h3
    obtain ⟨rfl, rfl, hok⟩ := E.rep
    simp +contextual (dsimp := false) [E.idx, E.goB, E.le, E.lt, E.cell0, Sou.c, wrap_succ (show i < 9223372036854775807 by omega)]
    refine CallK.fl ⟨_, Tryz.func58, rfl, rfl⟩ (l1NameOk_ac _ hok.1 _) ?_
    simp +contextual (dsimp := false) [wrap_succ (show i < 9223372036854775807 by omega)]
    refine ifA_intro (fun h4 => ?_) (fun h4 => ?_)
    · exact LoopN.of (i + 1) rfl ⟨h3, all_take hv h3 h4⟩ (by omega)
    · rw [checkSpace, if_neg k1, if_pos (.inl fun hc => by rw [hc _ (List.getElem_mem h3)] at h4; cases h4)]
      try trivial
  replace hv := all_end hv (by omega)
  have k2 := hv
  clear hv hi h3
  refine LoopA.upc (σ := Nat) [1, 4, 6] (fun i => [(6, int i)]) (fun i => i ≤ x.targets.length ∧ ∀ y ∈ x.targets.take i, nameOk y.name = true) (fun i => x.targets.length - i) 0 rfl (by simp) ?_
  rintro i ⟨hi, hv⟩
  simp +contextual (dsimp := false)
  refine ifA_dec (fun h3 => ?_) (fun h3 => ?_)
  · obtain ⟨id, o, c, e, f, ow, cs, Fi, E⟩ := SlR.get hc2 i h3
    obtain ⟨hk, s1, rfl, hcc⟩ := E.rep
    simp +contextual (dsimp := false) [E.idx, E.goB, E.le, E.lt, E.cell0, wrap_succ (show i < 9223372036854775807 by omega)]
    refine CallK.fl ⟨_, Tryz.func58, rfl, rfl⟩ (l1NameOk_ac _ hk _) ?_
    simp +contextual (dsimp := false) [wrap_succ (show i < 9223372036854775807 by omega)]
    refine ifA_intro (fun h4 => ?_) (fun h4 => ?_)
    · exact LoopN.of (i + 1) rfl ⟨h3, all_take hv h3 h4⟩ (by omega)
    · rw [checkSpace, if_neg k1, if_pos (.inr fun hc => by rw [hc _ (List.getElem_mem h3)] at h4; cases h4)]
      try trivial
  replace hv := all_end hv (by omega)
  have k3 : ¬ (¬ (∀ s ∈ x.sources, nameOk s.name = true) ∨ ¬ (∀ s ∈ x.targets, nameOk s.name = true)) := by
    rintro (h | h)
    · exact h k2
    · exact h hv
  clear hv hi h3
  refine LoopA.upc (σ := Nat) [1, 4, 7] (fun i => [(7, int i)]) (fun i => 1 ≤ i ∧ ∀ j (h : j + 1 < x.sources.length), j + 1 < i → ltS x.sources[j].name x.sources[j + 1].name = true) (fun i => x.sources.length - i) 1 rfl (by simp) ?_
  rintro i ⟨hi, hv⟩
  simp +contextual (dsimp := false)
  refine ifA_dec (fun h3 => ?_) (fun h3 => ?_)
  · obtain ⟨j, rfl⟩ : ∃ j, i = j + 1 := ⟨i - 1, by omega⟩
    have hw1 : IntKind.i64.wrap (((j + 1 : Nat) : Int) - 1) = (j : Int) := (wrap_of (((j + 1 : Nat) : Int) - 1) (by omega) (by omega)).trans (by omega)
    obtain ⟨id, o, c, e, f, ow, cs, Fi, E⟩ := SlR.get hc1 (j + 1) h3
    obtain ⟨rfl, rfl, hok⟩ := E.rep
    obtain ⟨id', o', c', e', f', ow', cs', Fi', E'⟩ := SlR.get hc1 j (by omega)
    obtain ⟨rfl, rfl, hok'⟩ := E'.rep
    simp +contextual (dsimp := false) [-Int.natCast_add, hw1, E.idx, E.goB, E.le, E.lt, E.cell0, E'.idx, E'.goB, E'.le, E'.lt, E'.cell0, Sou.c, wrap_succ (show j + 1 < 9223372036854775807 by omega)]
    refine ifA_intro (fun h4 => ?_) (fun h4 => ?_)
    · exact LoopN.of (j + 2) rfl ⟨by omega, fun q hq hlt => by
        rcases Nat.lt_or_ge (q + 1) (j + 1) with h5 | h5
        · exact hv q hq h5
        · obtain rfl : q = j := by omega
          exact h4⟩ (by omega)
    · rw [checkSpace, if_neg k1, if_neg k3, if_pos (asc_bad (j := j) (by omega) (by rw [hn1, hn1]; exact h4))]
      try trivial
  have k4 : ¬ asc (sNames x) = false := by
    rw [(asc_iff _).2 fun j hj => by rw [hn1, hn1]; exact hv j (by omega) (by omega)]
    simp
  clear hv hi h3
  refine LoopA.upc (σ := Nat) [1, 4, 8] (fun i => [(8, int i)]) (fun i => 1 ≤ i ∧ ∀ j (h : j + 1 < x.targets.length), j + 1 < i → ltS x.targets[j].name x.targets[j + 1].name = true) (fun i => x.targets.length - i) 1 rfl (by simp) ?_
  rintro i ⟨hi, hv⟩
  simp +contextual (dsimp := false)
  refine ifA_dec (fun h3 => ?_) (fun h3 => ?_)
  · obtain ⟨j, rfl⟩ : ∃ j, i = j + 1 := ⟨i - 1, by omega⟩
    have hw1 : IntKind.i64.wrap (((j + 1 : Nat) : Int) - 1) = (j : Int) := (wrap_of (((j + 1 : Nat) : Int) - 1) (by omega) (by omega)).trans (by omega)
    obtain ⟨id, o, c, e, f, ow, cs, Fi, E⟩ := SlR.get hc2 (j + 1) h3
    obtain ⟨hk, s1, rfl, hcc⟩ := E.rep
    obtain ⟨id', o', c', e', f', ow', cs', Fi', E'⟩ := SlR.get hc2 j (by omega)
    obtain ⟨hk', s1', rfl, hcc'⟩ := E'.rep
    simp +contextual (dsimp := false) [-Int.natCast_add, hw1, E.idx, E.goB, E.le, E.lt, E.cell0, E'.idx, E'.goB, E'.le, E'.lt, E'.cell0, wrap_succ (show j + 1 < 9223372036854775807 by omega)]
    refine ifA_intro (fun h4 => ?_) (fun h4 => ?_)
    · exact LoopN.of (j + 2) rfl ⟨by omega, fun q hq hlt => by
        rcases Nat.lt_or_ge (q + 1) (j + 1) with h5 | h5
        · exact hv q hq h5
        · obtain rfl : q = j := by omega
          exact h4⟩ (by omega)
    · rw [checkSpace, if_neg k1, if_neg k3, if_neg k4, if_pos (asc_bad (j := j) (by omega) (by rw [hn2, hn2]; exact h4))]
      try trivial
  have k5 : ¬ asc (tNames x) = false := by
    rw [(asc_iff _).2 fun j hj => by rw [hn2, hn2]; exact hv j (by omega) (by omega)]
    simp
  clear hv hi h3
  refine LoopA.upc (σ := Nat) [1, 4, 9] (fun i => [(9, int i)]) (fun i => i ≤ x.sources.length ∧ ∀ y ∈ x.sources.take i, y.name ∉ tNames x) (fun i => x.sources.length - i) 0 rfl (by simp) ?_
  rintro i ⟨hi, hv⟩
  simp +contextual (dsimp := false)
  refine ifA_dec (fun h3 => ?_) (fun h3 => ?_)
  · obtain ⟨id, o, c, e, f, ow, cs, Fi, E⟩ := SlR.get hc1 i h3
    obtain ⟨rfl, rfl, hok⟩ := E.rep
    simp +contextual (dsimp := false) [E.idx, E.goB, E.le, E.lt, E.cell0, Sou.c]
    refine CallK.fl ⟨_, Tryz.func77, rfl, rfl⟩ (l2Target_ac (Rp.ext h0 (Ext.app _ _)) _) ?_
    simp +contextual (dsimp := false) [wrap_succ (show i < 9223372036854775807 by omega), findI_ge]
    refine ifA_dec (fun h4 => ?_) (fun h4 => ?_)
    · rw [checkSpace, if_neg k1, if_neg k3, if_neg k4, if_neg k5, if_pos (fun hc => hc _ (List.getElem_mem h3) h4)]
      try trivial
    · exact LoopN.of (i + 1) rfl ⟨h3, all_take hv h3 h4⟩ (by omega)
  replace hv := all_end hv (by omega)
  have k6 : ¬ ¬ (∀ s ∈ x.sources, s.name ∉ tNames x) := fun h => h hv
  clear hv hi h3
  refine LoopA.upc (σ := Nat) [1, 4, 10] (fun i => [(10, int i)]) (fun i => i ≤ x.sources.length ∧ ∀ y ∈ x.sources.take i, y.text.length ≤ 2000) (fun i => x.sources.length - i) 0 rfl (by simp) ?_
  rintro i ⟨hi, hv⟩
  simp +contextual (dsimp := false)
  refine ifA_dec (fun h3 => ?_) (fun h3 => ?_)
  · obtain ⟨id, o, c, e, f, ow, cs, Fi, E⟩ := SlR.get hc1 i h3
    obtain ⟨rfl, rfl, hok⟩ := E.rep
    simp +contextual (dsimp := false) [E.idx, E.goB, E.le, E.lt, E.cell0, E.cell 1 (by omega), Sou.c, wrap_succ (show i < 9223372036854775807 by omega)]
    refine ifA_dec (fun h4 => ?_) (fun h4 => ?_)
    · rw [checkSpace, if_neg k1, if_neg k3, if_neg k4, if_neg k5, if_neg k6, if_pos (fun hc => by have := hc _ (List.getElem_mem h3); omega)]
      try trivial
    · exact LoopN.of (i + 1) rfl ⟨h3, all_take hv h3 (by omega)⟩ (by omega)
  replace hv := all_end hv (by omega)
  have k7 : ¬ ¬ (∀ s ∈ x.sources, s.text.length ≤ 2000) := fun h => h hv
  clear hv hi h3
  obtain ⟨g, hg⟩ : ∃ g : Nat → Int, ∀ i, g i = if (∀ y ∈ x.targets.take i, validP y.action = true) then 0 else 7 := ⟨_, fun _ => rfl⟩
  refine LoopA.upc (σ := Nat) [1, 4, 11] (fun i => [(4, int (g i)), (11, int i)]) (fun i => i ≤ x.targets.length) (fun i => x.targets.length - i) 0 (by rw [hg 0]; simp) (by simp) ?_
  rintro i hi
  simp +contextual (dsimp := false)
  refine ifA_dec (fun h3 => ?_) (fun h3 => ?_)
  · obtain ⟨id, o, c, e, f, ow, cs, Fi, E⟩ := SlR.get hc2 i h3
    obtain ⟨hk, s1, rfl, hcc⟩ := E.rep
    have hcc0 := hcc
    obtain ⟨a3, z3, rfl⟩ := hcc.form
    simp +contextual (dsimp := false) [E.idx, E.goB, E.le, E.lt, E.cell0, E.cell 1 (by omega), E.part 1 1 (by omega), wrap_succ (show i < 9223372036854775807 by omega)]
    refine CallK.fl ⟨_, Tryz.func105, rfl, rfl⟩ (specValid_ac (Rp.ext hcc0 (Ext.app _ _))) ?_
    simp +contextual (dsimp := false) [wrap_succ (show i < 9223372036854775807 by omega)]
    refine ifA_intro (fun h4 => ?_) (fun h4 => ?_)
    · refine LoopN.of (i + 1) ?_ (by omega) (by omega)
      have e : g (i + 1) = g i := ?_
      · rw [e]; rfl
      rw [hg, hg]
      have : (∀ y ∈ x.targets.take (i + 1), validP y.action = true) ↔ (∀ y ∈ x.targets.take i, validP y.action = true) :=
        ⟨fun h y hy => h y (mem_take_s hy), fun h => all_take h h3 h4⟩
      simp only [this]
    · refine LoopN.of (i + 1) ?_ (by omega) (by omega)
      have e : g (i + 1) = 7 := ?_
      · rw [e]; rfl
      rw [hg]
      have : ¬ (∀ y ∈ x.targets.take (i + 1), validP y.action = true) := fun h => by
        have := h x.targets[i] (get_take_s h3)
        rw [this] at h4
        cases h4
      rw [if_neg this]
  rw [checkSpace, if_neg k1, if_neg k3, if_neg k4, if_neg k5, if_neg k6, if_neg k7, hg, List.take_of_length_le (by omega)]
  by_cases h : ∀ y ∈ x.targets, validP y.action = true
  · rw [if_pos h, if_neg (fun hc => hc h)]
  · rw [if_neg h, if_pos h]
theorem implCheckSpace_ac {own : Bool} {x : Spc} {c : List Value} {F : List Nat} {H : Heap} (h : SpcR own H x c F) : AC Tryz.prog ng 79 [.agg c.toArray] H fun v S' => v = int (checkSpace x) ∧ S' = H := by
  have h0 := h
  obtain ⟨s1, s2, G1, G2, rfl, rfl, hc1, hc2⟩ := h
  obtain ⟨a1, z1, rfl⟩ := hc1.form
  obtain ⟨a2, z2, rfl⟩ := hc2.form
  have hb1 := hc1.bound
  have hb2 := hc2.bound
  have hl1 : (sNames x).length = x.sources.length := by simp [sNames]
  have hl2 : (tNames x).length = x.targets.length := by simp [tNames]
  have hn1 : ∀ i (h : i < x.sources.length), (sNames x)[i]'(by omega) = x.sources[i].name := fun i h => by simp [sNames]
  have hn2 : ∀ i (h : i < x.targets.length), (tNames x)[i]'(by omega) = x.targets[i].name := fun i h => by simp [tNames]
  refine .flat (AC.go [] Tryz.func79 rfl Tryz.ntmps79 rfl ⟨mixed, by kernel_rfl⟩ ?_)
  have hw : IntKind.i64.wrap ((x.sources.length : Int) + x.targets.length) = ((x.sources.length + x.targets.length : Nat) : Int) := (wrap_of ((x.sources.length : Int) + x.targets.length) (by omega) (by omega)).trans (by omega)
  simp +contextual (dsimp := false) [-Int.natCast_add, hw]
  refine ifA_dec (fun h1 => ?_) (fun h1 => ?_)
  · rw [checkSpace, if_pos (by omega)]
    try trivial
  have k1 : ¬ 200 < x.sources.length + x.targets.length := by omega
  obtain ⟨H0, hH0⟩ : ∃ H0, H0 = H ++ [(⟨.cells #[.slice a1 x.sources.length z1, .slice a2 x.targets.length z2] 44 (0, 0), true, true⟩ : Blk)] := ⟨_, rfl⟩
  have hl0 : H.length < H0.length := by rw [hH0]; simp
  have hx0 : Ext H H0 := by rw [hH0]; exact Ext.app _ _
  have hb0 : H0[H.length]? = some (⟨.cells #[.slice a1 x.sources.length z1, .slice a2 x.targets.length z2] 44 (0, 0), true, true⟩ : Blk) := by rw [hH0, List.getElem?_append_right (Nat.le_refl _), Nat.sub_self]; rfl
  rw [← hH0]
  have HE : Ext H0 H0 := Ext.refl _
  refine LoopA.up (σ := Nat × Heap) [1, 26, 27, 28] (fun i => [(28, int i.1)]) (fun i => i.2) (fun i => i.1 ≤ x.sources.length ∧ Ext H0 i.2 ∧ ∀ y ∈ x.sources.take i.1, nameOk y.name = true) (fun i => x.sources.length - i.1) (0, _) rfl ⟨by simp, HE, by simp⟩ ?_
  clear HE
  rintro ⟨i, hp⟩ ⟨hi, he, hv⟩
  dsimp only at hi he hv
  have hex : Ext H hp := hx0.trans he
  have hbx : ∀ q : Blk → Prop, goB hp H.length q = q _ := fun q => goB_of ((he _ hl0).trans hb0) q
  have hbx2 : ∀ (T : Heap) (q : Blk → Prop), goB (hp ++ T) H.length q = q _ := fun T q => goB_of ((get_ext (Nat.lt_of_lt_of_le hl0 he.le)).trans ((he _ hl0).trans hb0)) q
  try simp +contextual (dsimp := false) [hbx]
  refine ifA_dec (fun h3 => ?_) (fun h3 => ?_)
  · obtain ⟨id, o, c, e, f, ow, cs, Fi, E⟩ := SlR.get (Rp.ext hc1 hex) i h3
    obtain ⟨rfl, rfl, hok⟩ := E.rep
    simp +contextual (dsimp := false) [E.idx, E.goB, E.le, E.lt, E.ext, Sou.c, hbx, hbx2, wrap_succ (show i < 9223372036854775807 by omega)]
    refine CallK.fl ⟨_, Tryz.func82, rfl, rfl⟩ (isName_ac _ hok.1 _) ?_
    simp +contextual (dsimp := false) [wrap_succ (show i < 9223372036854775807 by omega)]
    refine ifA_intro (fun h4 => ?_) (fun h4 => ?_)
    · exact LoopN.of (i + 1, _) rfl ⟨h3, he.trans (Ext.app _ _), all_take hv h3 h4⟩ (by dsimp only; omega)
    · rw [checkSpace, if_neg k1, if_pos (.inl fun hc => by rw [hc _ (List.getElem_mem h3)] at h4; cases h4)]
      simp [hex]
  replace hv := all_end hv (by omega)
  have HE := he
  have k2 := hv
  try simp +contextual (dsimp := false) [hbx]
  refine LoopA.up (σ := Nat × Heap) [1, 38, 39, 40] (fun i => [(40, int i.1)]) (fun i => i.2) (fun i => i.1 ≤ x.targets.length ∧ Ext H0 i.2 ∧ ∀ y ∈ x.targets.take i.1, nameOk y.name = true) (fun i => x.targets.length - i.1) (0, _) rfl ⟨by simp, HE, by simp⟩ ?_
  clear HE
  rintro ⟨i, hp⟩ ⟨hi, he, hv⟩
  dsimp only at hi he hv
  have hex : Ext H hp := hx0.trans he
  have hbx : ∀ q : Blk → Prop, goB hp H.length q = q _ := fun q => goB_of ((he _ hl0).trans hb0) q
  have hbx2 : ∀ (T : Heap) (q : Blk → Prop), goB (hp ++ T) H.length q = q _ := fun T q => goB_of ((get_ext (Nat.lt_of_lt_of_le hl0 he.le)).trans ((he _ hl0).trans hb0)) q
  try simp +contextual (dsimp := false) [hbx]
  refine ifA_dec (fun h3 => ?_) (fun h3 => ?_)
  · obtain ⟨id, o, c, e, f, ow, cs, Fi, E⟩ := SlR.get (Rp.ext hc2 hex) i h3
    obtain ⟨hk, s1, rfl, hcc⟩ := E.rep
    obtain ⟨a3, z3, rfl⟩ := hcc.form
    simp +contextual (dsimp := false) [E.idx, E.goB, E.le, E.lt, E.ext, hbx, hbx2, wrap_succ (show i < 9223372036854775807 by omega)]
    refine CallK.fl ⟨_, Tryz.func82, rfl, rfl⟩ (isName_ac _ hk _) ?_
    simp +contextual (dsimp := false) [wrap_succ (show i < 9223372036854775807 by omega)]
    refine ifA_intro (fun h4 => ?_) (fun h4 => ?_)
    · exact LoopN.of (i + 1, _) rfl ⟨h3, he.trans (Ext.app _ _), all_take hv h3 h4⟩ (by dsimp only; omega)
    · rw [checkSpace, if_neg k1, if_pos (.inr fun hc => by rw [hc _ (List.getElem_mem h3)] at h4; cases h4)]
      simp [hex]
  replace hv := all_end hv (by omega)
  have HE := he
  have k3 : ¬ (¬ (∀ s ∈ x.sources, nameOk s.name = true) ∨ ¬ (∀ s ∈ x.targets, nameOk s.name = true)) := by
    rintro (h | h)
    · exact h k2
    · exact h hv
  refine LoopA.up (σ := Nat × Heap) [1, 7] (fun i => [(7, int i.1)]) (fun i => i.2) (fun i => 1 ≤ i.1 ∧ Ext H0 i.2 ∧ ∀ j (h : j + 1 < x.sources.length), j + 1 < i.1 → ltS x.sources[j].name x.sources[j + 1].name = true) (fun i => x.sources.length - i.1) (1, _) rfl ⟨by simp, HE, by simp⟩ ?_
  clear HE
  rintro ⟨i, hp⟩ ⟨hi, he, hv⟩
  dsimp only at hi he hv
  have hex : Ext H hp := hx0.trans he
  have hbx : ∀ q : Blk → Prop, goB hp H.length q = q _ := fun q => goB_of ((he _ hl0).trans hb0) q
  have hbx2 : ∀ (T : Heap) (q : Blk → Prop), goB (hp ++ T) H.length q = q _ := fun T q => goB_of ((get_ext (Nat.lt_of_lt_of_le hl0 he.le)).trans ((he _ hl0).trans hb0)) q
  try simp +contextual (dsimp := false) [hbx]
  refine ifA_dec (fun h3 => ?_) (fun h3 => ?_)
  · obtain ⟨j, rfl⟩ : ∃ j, i = j + 1 := ⟨i - 1, by omega⟩
    have hw1 : IntKind.i64.wrap (((j + 1 : Nat) : Int) - 1) = (j : Int) := (wrap_of (((j + 1 : Nat) : Int) - 1) (by omega) (by omega)).trans (by omega)
    obtain ⟨id, o, c, e, f, ow, cs, Fi, E⟩ := SlR.get (Rp.ext hc1 hex) (j + 1) h3
    obtain ⟨rfl, rfl, hok⟩ := E.rep
    obtain ⟨id', o', c', e', f', ow', cs', Fi', E'⟩ := SlR.get (Rp.ext hc1 hex) j (by omega)
    obtain ⟨rfl, rfl, hok'⟩ := E'.rep
    simp +contextual (dsimp := false) [-Int.natCast_add, hbx, hw1, E.idx, E.goB, E.le, E.lt, E.cell0, E'.idx, E'.goB, E'.le, E'.lt, E'.cell0, Sou.c, wrap_succ (show j + 1 < 9223372036854775807 by omega)]
    refine ifA_intro (fun h4 => ?_) (fun h4 => ?_)
    · exact LoopN.of (j + 2, hp) rfl ⟨by dsimp only; omega, he, fun q hq hlt => by
        rcases Nat.lt_or_ge (q + 1) (j + 1) with h5 | h5
        · exact hv q hq h5
        · obtain rfl : q = j := by dsimp only at hlt; omega
          exact h4⟩ (by dsimp only; omega)
    · rw [checkSpace, if_neg k1, if_neg k3, if_pos (asc_bad (j := j) (by omega) (by rw [hn1, hn1]; exact h4))]
      simp [hex]
  have k4 : ¬ asc (sNames x) = false := by
    rw [(asc_iff _).2 fun j hj => by rw [hn1, hn1]; exact hv j (by omega) (by omega)]
    simp
  have HE := he
  refine LoopA.up (σ := Nat × Heap) [1, 8] (fun i => [(8, int i.1)]) (fun i => i.2) (fun i => 1 ≤ i.1 ∧ Ext H0 i.2 ∧ ∀ j (h : j + 1 < x.targets.length), j + 1 < i.1 → ltS x.targets[j].name x.targets[j + 1].name = true) (fun i => x.targets.length - i.1) (1, _) rfl ⟨by simp, HE, by simp⟩ ?_
  clear HE
  rintro ⟨i, hp⟩ ⟨hi, he, hv⟩
  dsimp only at hi he hv
  have hex : Ext H hp := hx0.trans he
  have hbx : ∀ q : Blk → Prop, goB hp H.length q = q _ := fun q => goB_of ((he _ hl0).trans hb0) q
  have hbx2 : ∀ (T : Heap) (q : Blk → Prop), goB (hp ++ T) H.length q = q _ := fun T q => goB_of ((get_ext (Nat.lt_of_lt_of_le hl0 he.le)).trans ((he _ hl0).trans hb0)) q
  try simp +contextual (dsimp := false) [hbx]
  refine ifA_dec (fun h3 => ?_) (fun h3 => ?_)
  · obtain ⟨j, rfl⟩ : ∃ j, i = j + 1 := ⟨i - 1, by omega⟩
    have hw1 : IntKind.i64.wrap (((j + 1 : Nat) : Int) - 1) = (j : Int) := (wrap_of (((j + 1 : Nat) : Int) - 1) (by omega) (by omega)).trans (by omega)
    obtain ⟨id, o, c, e, f, ow, cs, Fi, E⟩ := SlR.get (Rp.ext hc2 hex) (j + 1) h3
    obtain ⟨hk, s1, rfl, hcc⟩ := E.rep
    obtain ⟨id', o', c', e', f', ow', cs', Fi', E'⟩ := SlR.get (Rp.ext hc2 hex) j (by omega)
    obtain ⟨hk', s1', rfl, hcc'⟩ := E'.rep
    simp +contextual (dsimp := false) [-Int.natCast_add, hbx, hw1, E.idx, E.goB, E.le, E.lt, E.cell0, E'.idx, E'.goB, E'.le, E'.lt, E'.cell0, wrap_succ (show j + 1 < 9223372036854775807 by omega)]
    refine ifA_intro (fun h4 => ?_) (fun h4 => ?_)
    · exact LoopN.of (j + 2, hp) rfl ⟨by dsimp only; omega, he, fun q hq hlt => by
        rcases Nat.lt_or_ge (q + 1) (j + 1) with h5 | h5
        · exact hv q hq h5
        · obtain rfl : q = j := by dsimp only at hlt; omega
          exact h4⟩ (by dsimp only; omega)
    · rw [checkSpace, if_neg k1, if_neg k3, if_neg k4, if_pos (asc_bad (j := j) (by omega) (by rw [hn2, hn2]; exact h4))]
      simp [hex]
  have k5' : asc (tNames x) = true := (asc_iff _).2 fun j hj => by rw [hn2, hn2]; exact hv j (by omega) (by omega)
  have k5 : ¬ asc (tNames x) = false := by rw [k5']; simp
  have HE := he
  try simp +contextual (dsimp := false) [hbx]
  refine LoopA.up (σ := Nat × Heap) [1, 92, 93, 94] (fun i => [(94, int i.1)]) (fun i => i.2) (fun i => i.1 ≤ x.sources.length ∧ Ext H0 i.2 ∧ ∀ y ∈ x.sources.take i.1, y.name ∉ tNames x) (fun i => x.sources.length - i.1) (0, _) rfl ⟨by simp, HE, by simp⟩ ?_
  clear HE
  rintro ⟨i, hp⟩ ⟨hi, he, hv⟩
  dsimp only at hi he hv
  have hex : Ext H hp := hx0.trans he
  have hbx : ∀ q : Blk → Prop, goB hp H.length q = q _ := fun q => goB_of ((he _ hl0).trans hb0) q
  have hbx2 : ∀ (T : Heap) (q : Blk → Prop), goB (hp ++ T) H.length q = q _ := fun T q => goB_of ((get_ext (Nat.lt_of_lt_of_le hl0 he.le)).trans ((he _ hl0).trans hb0)) q
  try simp +contextual (dsimp := false) [hbx]
  refine ifA_dec (fun h3 => ?_) (fun h3 => ?_)
  · obtain ⟨id, o, c, e, f, ow, cs, Fi, E⟩ := SlR.get (Rp.ext hc1 hex) i h3
    obtain ⟨rfl, rfl, hok⟩ := E.rep
    simp +contextual (dsimp := false) [E.idx, E.goB, E.le, E.lt, E.ext, Sou.c, hbx, hbx2, wrap_succ (show i < 9223372036854775807 by omega)]
    refine CallK.fl ⟨_, Tryz.func119, rfl, rfl⟩ (target_ac (Rp.ext h0 (hex.trans (Ext.app _ _))) _) ?_
    simp +contextual (dsimp := false) [wrap_succ (show i < 9223372036854775807 by omega), bsF_iff k5']
    refine ifA_dec (fun h4 => ?_) (fun h4 => ?_)
    · rw [checkSpace, if_neg k1, if_neg k3, if_neg k4, if_neg k5, if_pos (fun hc => hc _ (List.getElem_mem h3) h4)]
      simp [hex]
    · exact LoopN.of (i + 1, _) rfl ⟨h3, he.trans (Ext.app _ _), all_take hv h3 h4⟩ (by dsimp only; omega)
  replace hv := all_end hv (by omega)
  have HE := he
  have k6 : ¬ ¬ (∀ s ∈ x.sources, s.name ∉ tNames x) := fun h => h hv
  try simp +contextual (dsimp := false) [hbx]
  refine LoopA.up (σ := Nat × Heap) [1, 108, 109, 110] (fun i => [(110, int i.1)]) (fun i => i.2) (fun i => i.1 ≤ x.sources.length ∧ Ext H0 i.2 ∧ ∀ y ∈ x.sources.take i.1, y.text.length ≤ 2000) (fun i => x.sources.length - i.1) (0, _) rfl ⟨by simp, HE, by simp⟩ ?_
  clear HE
  rintro ⟨i, hp⟩ ⟨hi, he, hv⟩
  dsimp only at hi he hv
  have hex : Ext H hp := hx0.trans he
  have hbx : ∀ q : Blk → Prop, goB hp H.length q = q _ := fun q => goB_of ((he _ hl0).trans hb0) q
  have hbx2 : ∀ (T : Heap) (q : Blk → Prop), goB (hp ++ T) H.length q = q _ := fun T q => goB_of ((get_ext (Nat.lt_of_lt_of_le hl0 he.le)).trans ((he _ hl0).trans hb0)) q
  try simp +contextual (dsimp := false) [hbx]
  refine ifA_dec (fun h3 => ?_) (fun h3 => ?_)
  · obtain ⟨id, o, c, e, f, ow, cs, Fi, E⟩ := SlR.get (Rp.ext hc1 hex) i h3
    obtain ⟨rfl, rfl, hok⟩ := E.rep
    simp +contextual (dsimp := false) [E.idx, E.goB, E.le, E.lt, E.ext, Sou.c, hbx, hbx2, wrap_succ (show i < 9223372036854775807 by omega)]
    refine ifA_dec (fun h4 => ?_) (fun h4 => ?_)
    · rw [checkSpace, if_neg k1, if_neg k3, if_neg k4, if_neg k5, if_neg k6, if_pos (fun hc => by have := hc _ (List.getElem_mem h3); omega)]
      simp [hex]
    · exact LoopN.of (i + 1, _) rfl ⟨h3, he.trans (Ext.app _ _), all_take hv h3 (by omega)⟩ (by dsimp only; omega)
  replace hv := all_end hv (by omega)
  have HE := he
  have k7 : ¬ ¬ (∀ s ∈ x.sources, s.text.length ≤ 2000) := fun h => h hv
  try simp +contextual (dsimp := false) [hbx]
  refine LoopA.up (σ := Nat × Heap) [120, 121, 122] (fun i => [(122, int i.1)]) (fun i => i.2) (fun i => i.1 ≤ x.targets.length ∧ Ext H0 i.2 ∧ ∀ y ∈ x.targets.take i.1, validP y.action = true) (fun i => x.targets.length - i.1) (0, _) rfl ⟨by simp, HE, by simp⟩ ?_
  clear HE
  rintro ⟨i, hp⟩ ⟨hi, he, hv⟩
  dsimp only at hi he hv
  have hex : Ext H hp := hx0.trans he
  have hbx : ∀ q : Blk → Prop, goB hp H.length q = q _ := fun q => goB_of ((he _ hl0).trans hb0) q
  have hbx2 : ∀ (T : Heap) (q : Blk → Prop), goB (hp ++ T) H.length q = q _ := fun T q => goB_of ((get_ext (Nat.lt_of_lt_of_le hl0 he.le)).trans ((he _ hl0).trans hb0)) q
  try simp +contextual (dsimp := false) [hbx]
  refine ifA_dec (fun h3 => ?_) (fun h3 => ?_)
  · obtain ⟨id, o, c, e, f, ow, cs, Fi, E⟩ := SlR.get (Rp.ext hc2 hex) i h3
    obtain ⟨hk, s1, rfl, hcc⟩ := E.rep
    have hcc0 := hcc
    obtain ⟨a3, z3, rfl⟩ := hcc.form
    simp +contextual (dsimp := false) [E.idx, E.goB, E.le, E.lt, E.ext, hbx, hbx2, wrap_succ (show i < 9223372036854775807 by omega)]
    refine CallK.fl ⟨_, Tryz.func120, rfl, rfl⟩ (validProgram_ac (Rp.ext hcc0 (Ext.app _ _))) ?_
    simp +contextual (dsimp := false) [wrap_succ (show i < 9223372036854775807 by omega)]
    refine ifA_intro (fun h4 => ?_) (fun h4 => ?_)
    · exact LoopN.of (i + 1, _) rfl ⟨h3, he.trans (Ext.app _ _), all_take hv h3 h4⟩ (by dsimp only; omega)
    · rw [checkSpace, if_neg k1, if_neg k3, if_neg k4, if_neg k5, if_neg k6, if_neg k7, if_pos (fun hc => by rw [hc _ (List.getElem_mem h3)] at h4; cases h4)]
      simp [hex]
  replace hv := all_end hv (by omega)
  have HE := he
  rw [checkSpace, if_neg k1, if_neg k3, if_neg k4, if_neg k5, if_neg k6, if_neg k7, if_neg (fun h => h hv)]
  simp [hex]
end Go.Proofs.YtephpieeibcihaaGreatDoor

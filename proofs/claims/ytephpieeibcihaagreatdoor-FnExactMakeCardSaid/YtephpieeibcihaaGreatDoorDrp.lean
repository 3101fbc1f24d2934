import Derived.Test.YtephpieeibcihaaGreatDoorChk
set_option linter.all false
namespace Go.Proofs.YtephpieeibcihaaGreatDoor
open Go Go.Am Go.Proofs
set_option maxRecDepth 20000
variable {ng : Nat}
theorem cloneIns_ac {l : List Ins} {s : Value} {F : List Nat} {H : Heap} (hs : CodeR true H l [s] F) (hl : l.length ≤ 1048576) : AC Tryz.prog ng 178 [s] H fun v S' => ∃ F', Ext H S' ∧ CodeR true S' l [v] F' ∧ Fresh H.length F' := by
  refine AC.go [] Tryz.func178 rfl Tryz.ntmps178 rfl ⟨mixed, by kernel_rfl⟩ ?_
  rcases hs.cases with ⟨rfl, rfl, rfl⟩ | ⟨id, off, rfl⟩
  · simp +contextual (dsimp := false) [bin_nlseq und77]
    exact ⟨[], SlR.nil, Fresh.nil _⟩
  · simp +contextual (dsimp := false) [bin_sleq und77]
    refine AppK.many (base := H.length) slt77 und77 (SlR.mt (R := InsR) (e := 140) (f := (0, 0)) (by simp)) (Fresh.one (n := H.length) (Nat.le_refl _)) (Rp.ext hs (Ext.app _ _)) (by rw [SlR.flatF hs]; exact Fresh.nil _) (by rw [SlR.flatF hs]; simp) (by simp) (by simp; omega) (by decide) ?_
    intro s' H' F' q1 q2 q3 q4 q5
    simp +contextual (dsimp := false)
    refine ⟨fun j hj => ?_, F', q1, q2⟩
    rw [q4 j (by simp; omega) (by simp; omega), get_ext hj]
theorem twin_ac {l : List Ins} {s : Value} {F : List Nat} {H : Heap} (hs : CodeR true H l [s] F) (hl : l.length ≤ 1048576) : AC Tryz.prog ng 132 [.agg #[s]] H fun v S' => ∃ s' F', v = .agg #[s'] ∧ Ext H S' ∧ CodeR true S' l [s'] F' ∧ Fresh H.length F' := by
  obtain ⟨a, z, rfl⟩ := hs.form
  refine AC.go [] Tryz.func132 rfl Tryz.ntmps132 rfl ⟨mixed, by kernel_rfl⟩ ?_
  simp +contextual (dsimp := false)
  refine CallK.of ⟨_, Tryz.func178, rfl, rfl⟩ (cloneIns_ac (Rp.ext hs (Ext.app _ _)) hl) ?_
  rintro v S' ⟨F', he, hv, hf⟩
  obtain ⟨a', z', rfl⟩ := hv.form
  obtain ⟨G, rfl⟩ := he.split
  try simp only [List.append_assoc, List.cons_append, List.nil_append] at hv ⊢
  simp [Fresh] at hf
  simp +contextual (dsimp := false)
  exact ⟨F', Rp.fr hv fun i hi => by exact fr_drop 2 (by rfl) (hf.1 i hi), fun i hi => by have := hf.1 i hi; omega, hf.2⟩
theorem l2Program_ac {own : Bool} {l : List Ins} {s : Value} {F : List Nat} {H : Heap} (hs : CodeR own H l [s] F) (hl : l.length ≤ 1048576) : AC Tryz.prog ng 125 [.agg #[s]] H fun v S' => ∃ s' F', v = .agg #[s'] ∧ Ext H S' ∧ CodeR true S' l [s'] F' ∧ Fresh H.length F' := by
  obtain ⟨a, z, rfl⟩ := hs.form
  refine AC.go [] Tryz.func125 rfl Tryz.ntmps125 rfl ⟨mixed, by kernel_rfl⟩ ?_
  simp +contextual (dsimp := false)
  refine AppK.many (base := H.length + 2) slt77 und77 (SlR.mt (R := InsR) (e := 140) (f := (0, 0)) (by simp)) (Fresh.one (n := H.length + 2) (Nat.le_refl _)) (Rp.ext hs (Ext.app _ _)) (by rw [SlR.flatF hs]; exact Fresh.nil _) (by rw [SlR.flatF hs]; simp) (by simp) (by simp; omega) (by decide) ?_
  intro s' H' F' q1 q2 q3 q4 q5
  obtain ⟨a', z', rfl⟩ := q1.form
  have e0 : H'[H.length]? = _ := (q4 H.length (by simp) (by simp)).trans (by simp; rfl)
  have e1 : H'[H.length + 1]? = _ := (q4 (H.length + 1) (by simp) (by simp)).trans (by simp; rfl)
  have hl1 : H.length + 1 < H'.length := by simp at q3; omega
  simp +contextual (dsimp := false) [goB_of e0, goB_of e1, goB_self hl1]
  refine ⟨fun j hj => ?_, F', Rp.fr q1 fun j hj => List.getElem?_set_ne (by rintro rfl; have := q2.1 _ hj; omega), q2.weak (by omega)⟩
  rw [List.getElem?_set_ne (by omega), q4 j (by simp; omega) (by simp; omega), get_ext hj]
theorem SpcR.mt {own : Bool} {H : Heap} : SpcR own H ⟨[], []⟩ [.slice none 0 0, .slice none 0 0] [] := ⟨_, _, [], [], rfl, rfl, SlR.nil, SlR.nil⟩
end Go.Proofs.YtephpieeibcihaaGreatDoor

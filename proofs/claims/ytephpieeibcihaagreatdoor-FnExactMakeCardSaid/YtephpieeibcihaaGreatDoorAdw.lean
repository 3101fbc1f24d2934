import Derived.Test.YtephpieeibcihaaGreatDoorF2
import Derived.Laws.StructEq
import Derived.Test.YtephpieeibcihaaGreatDoorFow
import Derived.Test.YtephpieeibcihaaGreatDoorChk
set_option linter.all false
namespace Go.Am
open Go
variable {P : Program}
end Go.Am
namespace Go.Proofs.YtephpieeibcihaaGreatDoor
open Go Go.Am
set_option maxRecDepth 100000
end Go.Proofs.YtephpieeibcihaaGreatDoor
namespace Go.Am
open Go
def fitsD (sp : Spc) (d : Deed) : Bool :=
  if d.kind = 1 then decide (d.name ∈ sNames sp) && decide (souT sp d.name = d.text)
  else if d.kind = 3 then decide (d.name ∈ tNames sp) && decide (tgtA sp d.name = d.action)
  else !hasN sp d.name
def lookOkD (sp : Spc) (l : Lnk) : Bool := l.ask || decide (l.has = hasN sp l.name)
def lookAll (sp : Spc) (ls : List Lnk) : Bool := ls.all (lookOkD sp)
def auditD (ds : List Deed) (sp : Spc) (d : Deed) : Int := if fitsD sp d = false then 2 else if lookAll sp d.links = false then 3 else folD ds d
theorem bsP_idx {l : List (List UInt8)} (ha : asc l = true) {x : List UInt8} (hx : x ∈ l) : bsP l x = l.idxOf x := by
  have hb := bsF_iff ha x
  rw [decide_eq_true hx] at hb
  have hb := of_decide_eq_true hb
  have hi := List.idxOf_lt_length_iff.2 hx
  have h1 : l[bsP l x]'hb.1 = x := by
    have := hb.2
    rw [List.getD_eq_getElem?_getD, List.getElem?_eq_getElem hb.1] at this
    exact this
  have h2 := List.getElem_idxOf hi
  rcases Nat.lt_trichotomy (bsP l x) (l.idxOf x) with h | h | h
  · have := asc_lt ha _ _ hi h
    rw [h1, h2, ltS_irrefl] at this
    cases this
  · exact h
  · have := asc_lt ha _ _ hb.1 h
    rw [h1, h2, ltS_irrefl] at this
    cases this
end Go.Am
namespace Go.Proofs.YtephpieeibcihaaGreatDoor
open Go Go.Am Go.Proofs
set_option maxRecDepth 20000
variable {ng : Nat}
theorem there_ac {own : Bool} {x : Spc} {c : List Value} {F : List Nat} {H : Heap} (h : SpcR own H x c F) (hsp : checkSpace x = 0) (n : List UInt8) : AC Tryz.prog ng 122 [.agg c.toArray, str n] H fun v S' => v = .bool (hasN x n) ∧ S' = H := by
  obtain ⟨q1, q2, q3, q4, q5, q6⟩ := checkSpace_ok hsp
  have h' := h
  obtain ⟨s1, s2, F1, F2, rfl, hF, h1, h2⟩ := h
  obtain ⟨a1, z1, rfl⟩ := h1.form
  obtain ⟨a2, z2, rfl⟩ := h2.form
  refine .flat (AC.go [] Tryz.func122 rfl Tryz.ntmps122 rfl ⟨mixed, by kernel_rfl⟩ ?_)
  simp +contextual (dsimp := false)
  refine CallK.fl ⟨_, Tryz.func127, rfl, rfl⟩ (source_ac (Rp.ext h' (Ext.app _ _)) n) ?_
  simp +contextual (dsimp := false)
  refine CallK.fl ⟨_, Tryz.func119, rfl, rfl⟩ (target_ac (Rp.ext h' (Ext.app _ _)) n) ?_
  rw [bsF_iff q4, bsF_iff q5]
  simp +contextual (dsimp := false)
  unfold hasN
  by_cases c1 : n ∈ sNames x <;> by_cases c2 : n ∈ tNames x <;> simp [c1, c2]
end Go.Proofs.YtephpieeibcihaaGreatDoor

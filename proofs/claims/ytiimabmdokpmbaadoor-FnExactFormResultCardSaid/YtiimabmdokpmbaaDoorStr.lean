/- Lists of strings: the laws' helpers. No condition. -/
import Derived.Test.YtiimabmdokpmbaaDoorM
namespace Go.Proofs.YtiimabmdokpmbaaDoor
open Go Go.Am
set_option linter.unusedSimpArgs false
set_option linter.unusedVariables false
set_option maxRecDepth 20000
variable {ng : Nat}

theorem eqStringS_ac {o1 o2 : Bool} {l1 l2 : List (List UInt8)} {s1 s2 : Value} {F1 F2 : List Nat} {H : Heap} (hs1 : StrsR o1 H l1 [s1] F1) (hs2 : StrsR o2 H l2 [s2] F2) : AC Tryd.prog ng 19 [s1, s2] H fun v S' => v = .bool (decide (l1 = l2)) ∧ S' = H := by
  obtain ⟨a1, z1, rfl⟩ := hs1.form
  obtain ⟨a2, z2, rfl⟩ := hs2.form
  have hb := hs1.bound
  refine .flat (AC.go [] Tryd.func19 rfl Tryd.ntmps19 rfl ⟨mixed, by kernel_rfl⟩ ?_)
  simp +contextual (dsimp := false)
  refine ifA_dec (fun h => ?_) (fun h => ?_)
  · refine LoopA.by (σ := Nat) [0, 1, 5] (fun i => ⟨slots 0 26 [(0, .slice a1 l1.length z1), (1, .slice a2 l2.length z2), (5, int i)], H⟩) (fun i => i ≤ l1.length ∧ l1.take i = l2.take i) (fun i => l1.length - i) 0 (by simp) (by simp) ?_
    rintro i ⟨hi, hv⟩
    simp +contextual (dsimp := false)
    refine ifA_dec (fun h3 => ?_) (fun h3 => ?_)
    · obtain ⟨id, o, c, e, f, ow, cs, Fi, E⟩ := SlR.get hs1 i h3
      obtain ⟨rfl, rfl, hok⟩ := E.rep
      obtain ⟨id', o', c', e', f', ow', cs', Fi', E'⟩ := SlR.get hs2 i (by omega)
      obtain ⟨rfl, rfl, hok'⟩ := E'.rep
      simp +contextual (dsimp := false) [E.idx, E.goB, E.le, E.cell0, E'.idx, E'.goB, E'.le, E'.cell0, str_eq, wrap_succ (show i < 9223372036854775807 by omega)]
      refine ifA_dec (fun h4 => ?_) (fun h4 => ?_)
      · refine LoopN.of (i + 1) rfl ⟨h3, ?_⟩ (by omega)
        rw [List.take_succ_eq_append_getElem h3, List.take_succ_eq_append_getElem (show i < l2.length by omega), hv, h4]
      · try simp
        rintro rfl
        exact h4 rfl
    · rw [List.take_of_length_le (by omega), List.take_of_length_le (by omega)] at hv
      simp [hv]
  · try simp
    rintro rfl
    exact h rfl
theorem szStringS_ac {own : Bool} {l : List (List UInt8)} {s : Value} {F : List Nat} {H : Heap} (hs : StrsR own H l [s] F) (left : Int) (hl : 0 ≤ left ∧ left ≤ 1048576) : AC Tryd.prog ng 15 [s, int left] H fun v S' => v = int (szR left (wL List.length l)) ∧ S' = H := by
  obtain ⟨a, z, rfl⟩ := hs.form
  have hb := hs.bound
  refine .flat (AC.go [] Tryd.func15 rfl Tryd.ntmps15 rfl ⟨mixed, by kernel_rfl⟩ ?_)
  have hw : IntKind.i64.wrap (left - (l.length : Int)) = left - l.length := wrap_of _ (by omega) (by omega)
  simp +contextual (dsimp := false) [hw]
  refine ifA_dec (fun h => ?_) (fun h => ?_)
  · rw [szR_neg (by unfold wL; omega)]
  refine LoopA.by (σ := Nat) [0, 1, 5] (fun i => ⟨slots 0 28 [(0, .slice a l.length z), (1, int (left - l.length - wS List.length l i)), (5, int i)], H⟩) (fun i => i ≤ l.length ∧ 0 ≤ left - l.length - wS List.length l i) (fun i => l.length - i) 0
    (by simp) (by simp; omega) ?_
  rintro i ⟨hi, hv⟩
  simp +contextual (dsimp := false)
  refine ifA_dec (fun h3 => ?_) (fun h3 => ?_)
  · obtain ⟨id, o, c, e, f, ow, cs, Fi, E⟩ := SlR.get hs i h3
    obtain ⟨rfl, rfl, hok⟩ := E.rep
    unfold okS at hok
    have hst := wS_s List.length l i h3
    have hsl := wS_le List.length l (i + 1)
    have hw2 : IntKind.i64.wrap (left - l.length - wS List.length l i - (l[i].length : Int)) = left - l.length - wS List.length l (i + 1) := by
      rw [wrap_of _ (by omega) (by omega)]; omega
    simp +contextual (dsimp := false) [E.idx, E.goB, E.lt, E.le, E.cell0, hw2, wrap_succ (show i < 9223372036854775807 by omega)]
    refine ifA_dec (fun h4 => ?_) (fun h4 => ?_)
    · rw [szR_neg (by omega)]
    · exact LoopN.of (i + 1) (by simp) ⟨h3, by omega⟩ (by omega)
  · have := wS_all List.length l i (by omega)
    rw [szR_ge (by omega)]
    try simp
    omega
theorem toStringS_ac {own : Bool} {l : List (List UInt8)} {s : Value} {F : List Nat} {H : Heap} (hs : StrsR own H l [s] F) (hl : l.length ≤ 1048576) : AC Tryd.prog ng 17 [s] H fun v S' => ∃ F', Ext H S' ∧ StrsR true S' l [v] F' ∧ Fresh H.length F' := by
  obtain ⟨a, z, rfl⟩ := hs.form
  have hb := hs.bound
  refine AC.go [] Tryd.func17 rfl Tryd.ntmps17 rfl ⟨mixed, by kernel_rfl⟩ ?_
  simp +contextual (dsimp := false)
  obtain ⟨hm, hr⟩ := SlR.make (H := H) (R := strR) slt22 zer9 ([] : List UInt8) (fun H => ⟨rfl, rfl, by simp [okS]⟩) (show l.length * 16 ≤ 281474976710656 by omega) hb
  refine MakeK.of hm ?_
  simp +contextual (dsimp := false)
  refine LoopA.by (σ := Nat × Heap) [0, 3, 4] (fun x => ⟨slots 0 22 [(0, .slice a l.length z), (3, .slice (some ⟨H.length, 0, none⟩) l.length 1), (4, int x.1)], x.2⟩)
    (fun x => x.1 ≤ l.length ∧ Ext H x.2 ∧ StrsR true x.2 (partL l [] x.1) [.slice (some ⟨H.length, 0, none⟩) l.length 1] [H.length]) (fun x => l.length - x.1) (0, _) rfl ⟨by simp, by simp, by rw [partL_z]; simpa using hr⟩ ?_
  rintro ⟨i, hp⟩ ⟨hi, he, hv⟩
  dsimp only at hi he hv
  simp +contextual (dsimp := false)
  refine ifA_dec (fun h3 => ?_) (fun h3 => ?_)
  · obtain ⟨id, o, c, e, f, ow, cs, Fi, E⟩ := SlR.get (Rp.ext hs he) i h3
    obtain ⟨rfl, rfl, hok⟩ := E.rep
    obtain ⟨id', o', c', e', f', ow', cs', Fi', E'⟩ := SlR.get hv i (by rw [partL_length _ _ _ hi]; exact h3)
    obtain ⟨_, rfl, _⟩ := E'.rep
    obtain rfl := E'.own' rfl
    simp +contextual (dsimp := false) [E.idx, E.goB, E.le, E.lt, E.cell0, wrap_succ (show i < 9223372036854775807 by omega), E'.idx, E'.goB, E'.lt, E'.le]
    have hid : id' = H.length := by simpa using E'.mem
    have hset := E'.set (by simp) rfl rfl (show strR hp l[i] [str l[i]] [] from ⟨rfl, rfl, hok⟩)
    rw [partL_s _ _ _ h3] at hset
    exact LoopN.of (i + 1, _) rfl ⟨h3, he.set (by omega) _, hset⟩ (by dsimp only; omega)
  · rw [partL_all _ _ _ (by omega)] at hv
    exact ⟨he, _, hv, by simp, by simp⟩
end Go.Proofs.YtiimabmdokpmbaaDoor

import Derived.Test.YtbigpkfdeaigeaaGreatDoorDat2
import Derived.Test.YtbigpkfdeaigeaaGreatDoorTypes
import Derived.KernelRfl
/- The orders that the program's text leaves open. No condition. -/
namespace Go.Proofs.YtbigpkfdeaigeaaGreatDoor
open Go Go.Am
theorem mixed : Tryz.prog.follows .mixedOrders = true := by kernel_rfl
end Go.Proofs.YtbigpkfdeaigeaaGreatDoor

/- The program's and the reference's tests of an instruction and of a program. No condition. -/
namespace Go.Proofs.YtbigpkfdeaigeaaGreatDoor
open Go Go.Am Go.Proofs
set_option maxRecDepth 20000
variable {ng : Nat}
theorem top_ac (op : Int) (H : Heap) : AC Tryz.prog ng 181 [int op] H fun v S' => v = int (topN op) ∧ S' = H := by
  refine AC.go [] Tryz.func181 rfl Tryz.ntmps181 rfl ⟨mixed, by kernel_rfl⟩ ?_
  simp +contextual (dsimp := false)
  unfold topN
  simp only [ifA_ite, decide_eq_true_eq]
  repeat' split
  all_goals first | rfl | omega
theorem valid_ac (x : Ins) (H : Heap) : AC Tryz.prog ng 178 [.agg x.c.toArray] H fun v S' => v = .bool x.valid ∧ S' = H := by
  refine .flat (AC.go [(3, .take 0 <| .take 1 <| .take 2 <| .take 3 <| .take 4 <| .take 6 <| .take 5 <| .take 7 <| .one 8 [5] <| .take 9 <| .take 10 <| .take 11 <| .take 12 <| .done)] Tryz.func178 rfl Tryz.ntmps178 rfl ⟨mixed, by kernel_rfl⟩ ?_)
  simp +contextual (dsimp := false) [Ins.c]
  repeat' refine ifA_dec (fun _ => ?_) (fun _ => ?_)
  all_goals try (refine CallK.fl ⟨_, Tryz.func181, rfl, rfl⟩ (top_ac _ _) ?_; simp +contextual (dsimp := false))
  all_goals simp [Ins.valid, maxI]
  all_goals grind
theorem l1Word_ac (op : Int) (H : Heap) : AC Tryz.prog ng 171 [int op] H fun v S' => v = .tuple #[str (wordOf op).1, int (wordOf op).2] ∧ S' = H := by
  refine AC.go [] Tryz.func171 rfl Tryz.ntmps171 rfl ⟨mixed, by kernel_rfl⟩ ?_
  simp (dsimp := false)
  unfold wordOf
  repeat' refine ifA_dec (fun h => ?_) (fun h => ?_)
  all_goals simp [*]
theorem validProgram_ac {own : Bool} {p : List Ins} {s : Value} {F : List Nat} {H : Heap} (hs : CodeR own H p [s] F) : AC Tryz.prog ng 147 [.agg #[s]] H fun v S' => v = .bool (validP p) ∧ S' = H := by
  obtain ⟨a, z, rfl⟩ := hs.form
  refine .flat (AC.go [] Tryz.func147 rfl Tryz.ntmps147 rfl ⟨mixed, by kernel_rfl⟩ ?_)
  simp +contextual (dsimp := false)
  refine ifA_dec (fun h1 => ?_) (fun h1 => ?_)
  · simp [validP]; omega
  refine ifA_dec (fun h2 => ?_) (fun h2 => ?_)
  · simp [validP]; omega
  refine LoopA.by (σ := Nat × Heap) [16, 17, 18] (fun x => ⟨slots 0 26 [(16, .slice a p.length z), (17, int p.length), (18, int x.1)], x.2⟩) (fun x => x.1 ≤ p.length ∧ Ext H x.2 ∧ ∀ y ∈ p.take x.1, y.valid = true) (fun x => p.length - x.1) (0, _) rfl (by simp) ?_
  rintro ⟨i, hp⟩ ⟨hi, he, hv⟩
  dsimp only at hi he hv
  simp +contextual (dsimp := false)
  refine ifA_dec (fun h3 => ?_) (fun h3 => ?_)
  · obtain ⟨id, o, c, e, f, ow, cs, Fi, E⟩ := SlR.get (Rp.ext hs he) i h3
    obtain ⟨rfl, rfl, hok⟩ := E.rep
    simp +contextual (dsimp := false) [E.idx, E.goB, E.le, E.ext, Ins.c]
    refine CallK.fl ⟨_, Tryz.func178, rfl, rfl⟩ (valid_ac p[i] _) ?_
    simp +contextual (dsimp := false) [wrap_succ (show i < 9223372036854775807 by omega)]
    refine ifA_intro (fun h4 => ?_) (fun h4 => ?_)
    · refine LoopN.of (i + 1, _) rfl ⟨h3, he.trans (Ext.app _ _), fun y hy => ?_⟩ (by dsimp only; omega)
      rw [List.take_succ_eq_append_getElem h3, List.mem_append] at hy
      rcases hy with hy | hy
      · exact hv y hy
      · simp at hy; rw [hy]; exact h4
    · simp [validP, he]
      intro _ _
      exact ⟨p[i], List.getElem_mem h3, h4⟩
  · have : p.take i = p := List.take_of_length_le (by omega)
    rw [this] at hv
    simp [validP, he]
    exact ⟨⟨by omega, by omega⟩, hv⟩
theorem word_out {op : Int} (h : ¬ (1 ≤ op ∧ op ≤ 15)) : wordOf op = ([], 0) := by
  unfold wordOf
  repeat rw [if_neg (by omega)]
theorem word_in {op : Int} (h : 1 ≤ op ∧ op ≤ 15) : ∃ m : Fin 15, op = ((m.val + 1 : Nat) : Int) := ⟨⟨op.toNat - 1, by omega⟩, by simp only []; omega⟩
theorem word1 (op : Int) : (wordOf op).1 = [] ↔ ¬ (1 ≤ op ∧ op ≤ 15) := by
  by_cases h : 1 ≤ op ∧ op ≤ 15
  · obtain ⟨m, rfl⟩ := word_in h
    revert m
    decide
  · rw [word_out h]
    simp
    omega
theorem word2 (op : Int) : (wordOf op).2 = 1 ↔ op = 1 := by
  by_cases h : 1 ≤ op ∧ op ≤ 15
  · obtain ⟨m, rfl⟩ := word_in h
    revert m
    decide
  · rw [word_out h]
    simp
    omega
theorem word3 (op : Int) : (wordOf op).2 = 2 ↔ (op = 3 ∨ op = 4 ∨ op = 5) := by
  by_cases h : 1 ≤ op ∧ op ≤ 15
  · obtain ⟨m, rfl⟩ := word_in h
    revert m
    decide
  · rw [word_out h]
    simp
    omega
theorem word4 (op : Int) : (wordOf op).2 = 3 ↔ (op = 10 ∨ op = 11) := by
  by_cases h : 1 ≤ op ∧ op ≤ 15
  · obtain ⟨m, rfl⟩ := word_in h
    revert m
    decide
  · rw [word_out h]
    simp
    omega
theorem l1InsOk_ac (x : Ins) (H : Heap) : AC Tryz.prog ng 140 [.agg x.c.toArray] H fun v S' => v = .bool x.valid ∧ S' = H := by
  refine .flat (AC.go [] Tryz.func140 rfl Tryz.ntmps140 rfl ⟨mixed, by kernel_rfl⟩ ?_)
  simp +contextual (dsimp := false) [Ins.c]
  refine CallK.fl ⟨_, Tryz.func171, rfl, rfl⟩ (l1Word_ac _ _) ?_
  simp +contextual (dsimp := false)
  repeat' refine ifA_dec (fun _ => ?_) (fun _ => ?_)
  all_goals simp only [word1, word2, word3, word4] at *
  all_goals simp [Ins.valid, topN]
  all_goals grind
theorem specValid_ac {own : Bool} {p : List Ins} {s : Value} {F : List Nat} {H : Heap} (hs : CodeR own H p [s] F) : AC Tryz.prog ng 97 [.agg #[s]] H fun v S' => v = .bool (validP p) ∧ S' = H := by
  obtain ⟨a, z, rfl⟩ := hs.form
  refine .flat (AC.go [] Tryz.func97 rfl Tryz.ntmps97 rfl ⟨mixed, by kernel_rfl⟩ ?_)
  have hl := hs.bound
  simp +contextual (dsimp := false)
  refine LoopA.by (σ := Nat) [1, 3] (fun i => ⟨slots 0 28 [(1, .pointer (some ⟨H.length, 0, none⟩)), (3, int i)], _⟩) (fun i => i ≤ p.length ∧ ∀ y ∈ p.take i, y.valid = true) (fun i => p.length - i) 0 rfl (by simp) ?_
  rintro i ⟨hi, hv⟩
  simp +contextual (dsimp := false)
  refine ifA_dec (fun h3 => ?_) (fun h3 => ?_)
  · obtain ⟨id, o, c, e, f, ow, cs, Fi, E⟩ := SlR.get hs i h3
    obtain ⟨rfl, rfl, hok⟩ := E.rep
    simp +contextual (dsimp := false) [E.idx, E.goB, E.lt, E.le, E.ext, Ins.c]
    refine CallK.fl ⟨_, Tryz.func140, rfl, rfl⟩ (l1InsOk_ac p[i] _) ?_
    simp +contextual (dsimp := false) [wrap_succ (show i < 9223372036854775807 by omega)]
    refine ifA_intro (fun h4 => ?_) (fun h4 => ?_)
    · refine LoopN.of (i + 1) rfl ⟨h3, fun y hy => ?_⟩ (by omega)
      rw [List.take_succ_eq_append_getElem h3, List.mem_append] at hy
      rcases hy with hy | hy
      · exact hv y hy
      · simp at hy; rw [hy]; exact h4
    · simp [validP]
      intro _ _
      exact ⟨p[i], List.getElem_mem h3, h4⟩
  · have : p.take i = p := List.take_of_length_le (by omega)
    rw [this] at hv
    refine ifA_dec (fun h4 => ?_) (fun h4 => ?_)
    · simp [validP]
      grind
    · simp [validP]
      grind
end Go.Proofs.YtbigpkfdeaigeaaGreatDoor

/- The exact laws' helpers for instructions and programs. No condition. -/
namespace Go.Proofs.YtbigpkfdeaigeaaGreatDoor
open Go Go.Am Go.Proofs
set_option maxRecDepth 20000
set_option linter.unusedSimpArgs false
set_option linter.unusedVariables false
variable {ng : Nat}
theorem szIns_ac (x : Ins) (hx : x.ok) (left : Int) (hl : 0 ≤ left ∧ left ≤ 1048576) (H : Heap) : AC Tryz.prog ng 214 [.agg x.c.toArray, int left] H fun v S' => v = int (szR left x.w) ∧ S' = H := by
  obtain ⟨_, ho, _⟩ := hx
  unfold okS at ho
  refine .flat (AC.go [] Tryz.func214 rfl Tryz.ntmps214 rfl ⟨mixed, by kernel_rfl⟩ ?_)
  have hw : IntKind.i64.wrap (left - (x.text.length : Int)) = left - x.text.length := wrap_of _ (by omega) (by omega)
  simp +contextual (dsimp := false) [Ins.c, hw]
  refine ifA_dec (fun h => ?_) (fun h => ?_)
  · rw [szR_neg (by unfold Ins.w; omega)]
  · rw [szR_ge (by unfold Ins.w; omega)]; rfl
theorem szInsS_ac {own : Bool} {l : List Ins} {s : Value} {F : List Nat} {H : Heap} (hs : CodeR own H l [s] F) (left : Int) (hl : 0 ≤ left ∧ left ≤ 1048576) : AC Tryz.prog ng 172 [s, int left] H fun v S' => v = int (szR left (wL Ins.w l)) ∧ S' = H := by
  obtain ⟨a, z, rfl⟩ := hs.form
  have hb := hs.bound
  refine .flat (AC.go [] Tryz.func172 rfl Tryz.ntmps172 rfl ⟨mixed, by kernel_rfl⟩ ?_)
  have hw : IntKind.i64.wrap (left - (l.length : Int)) = left - l.length := wrap_of _ (by omega) (by omega)
  simp +contextual (dsimp := false) [hw]
  refine ifA_dec (fun h => ?_) (fun h => ?_)
  · rw [szR_neg (by unfold wL; omega)]
  refine LoopA.by (σ := Nat) [0, 1, 5] (fun i => ⟨slots 0 27 [(0, .slice a l.length z), (1, int (left - l.length - wS Ins.w l i)), (5, int i)], H⟩) (fun i => i ≤ l.length ∧ 0 ≤ left - l.length - wS Ins.w l i) (fun i => l.length - i) 0
    (by simp) (by simp; omega) ?_
  rintro i ⟨hi, hv⟩
  simp +contextual (dsimp := false)
  refine ifA_dec (fun h3 => ?_) (fun h3 => ?_)
  · obtain ⟨id, o, c, e, f, ow, cs, Fi, E⟩ := SlR.get hs i h3
    obtain ⟨rfl, rfl, hok⟩ := E.rep
    simp +contextual (dsimp := false) [E.idx, E.goB, E.lt, E.le, E.ext, Ins.c]
    refine CallK.fl ⟨_, Tryz.func214, rfl, rfl⟩ (szIns_ac l[i] hok _ (by omega) _) ?_
    simp +contextual (dsimp := false) [wrap_succ (show i < 9223372036854775807 by omega)]
    have hst := wS_s Ins.w l i h3
    have hsl := wS_le Ins.w l (i + 1)
    refine ifA_dec (fun h4 => ?_) (fun h4 => ?_)
    · rw [szR_lt hv] at h4
      rw [szR_neg (by omega)]
    · rw [szR_lt hv] at h4
      refine LoopN.of (i + 1) ?_ ⟨h3, by omega⟩ (by omega)
      rw [szR_ge (by omega), show left - l.length - wS Ins.w l i - l[i].w = left - l.length - wS Ins.w l (i + 1) by omega]
      simp
  · have := wS_all Ins.w l i (by omega)
    rw [szR_ge (by omega)]
    try simp
    omega
theorem szProgram_ac {own : Bool} {l : List Ins} {s : Value} {F : List Nat} {H : Heap} (hs : CodeR own H l [s] F) (left : Int) (hl : 0 ≤ left ∧ left ≤ 1048576) : AC Tryz.prog ng 141 [.agg #[s], int left] H fun v S' => v = int (szR left (wL Ins.w l)) ∧ S' = H := by
  obtain ⟨a, z, rfl⟩ := hs.form
  refine .flat (AC.go [] Tryz.func141 rfl Tryz.ntmps141 rfl ⟨mixed, by kernel_rfl⟩ ?_)
  simp +contextual (dsimp := false)
  refine CallK.fl ⟨_, Tryz.func172, rfl, rfl⟩ (szInsS_ac (Rp.ext hs (Ext.app _ _)) left hl) ?_
  simp +contextual (dsimp := false)
  refine ifA_dec (fun h => ?_) (fun h => ?_)
  · rw [szR_lt hl.1] at h; rw [szR_neg h]
  · trivial
theorem toIns_ac (x : Ins) (H : Heap) : AC Tryz.prog ng 215 [.agg x.c.toArray] H fun v S' => v = .agg x.c.toArray ∧ S' = H := by
  refine .flat (AC.go [] Tryz.func215 rfl Tryz.ntmps215 rfl ⟨mixed, by kernel_rfl⟩ ?_)
  simp +contextual (dsimp := false) [Ins.c]
theorem eqIns_ac (x y : Ins) (H : Heap) : AC Tryz.prog ng 223 [.agg x.c.toArray, .agg y.c.toArray] H fun v S' => v = .bool (decide (x = y)) ∧ S' = H := by
  refine .flat (AC.go [] Tryz.func223 rfl Tryz.ntmps223 rfl ⟨mixed, by kernel_rfl⟩ ?_)
  obtain ⟨a1, a2, a3⟩ := x
  obtain ⟨b1, b2, b3⟩ := y
  simp +contextual (dsimp := false) [Ins.c]
  simp [ifA_ite]
theorem eqInsS_ac {o1 o2 : Bool} {l1 l2 : List Ins} {s1 s2 : Value} {F1 F2 : List Nat} {H : Heap} (hs1 : CodeR o1 H l1 [s1] F1) (hs2 : CodeR o2 H l2 [s2] F2) : AC Tryz.prog ng 193 [s1, s2] H fun v S' => v = .bool (decide (l1 = l2)) ∧ S' = H := by
  obtain ⟨a1, z1, rfl⟩ := hs1.form
  obtain ⟨a2, z2, rfl⟩ := hs2.form
  have hb := hs1.bound
  refine .flat (AC.go [] Tryz.func193 rfl Tryz.ntmps193 rfl ⟨mixed, by kernel_rfl⟩ ?_)
  simp +contextual (dsimp := false)
  refine ifA_dec (fun h => ?_) (fun h => ?_)
  · refine LoopA.by (σ := Nat) [0, 1, 5] (fun i => ⟨slots 0 27 [(0, .slice a1 l1.length z1), (1, .slice a2 l2.length z2), (5, int i)], H⟩) (fun i => i ≤ l1.length ∧ l1.take i = l2.take i) (fun i => l1.length - i) 0 (by simp) (by simp) ?_
    rintro i ⟨hi, hv⟩
    simp +contextual (dsimp := false)
    refine ifA_dec (fun h3 => ?_) (fun h3 => ?_)
    · obtain ⟨id, o, c, e, f, ow, cs, Fi, E⟩ := SlR.get hs1 i h3
      obtain ⟨rfl, rfl, hok⟩ := E.rep
      obtain ⟨id', o', c', e', f', ow', cs', Fi', E'⟩ := SlR.get hs2 i (by omega)
      obtain ⟨rfl, rfl, hok'⟩ := E'.rep
      simp +contextual (dsimp := false) [E.idx, E.goB, E.lt, E.le, E.ext, E'.idx, E'.goB, E'.lt, E'.le, E'.ext, Ins.c]
      refine CallK.fl ⟨_, Tryz.func223, rfl, rfl⟩ (eqIns_ac l1[i] l2[i] _) ?_
      simp +contextual (dsimp := false) [wrap_succ (show i < 9223372036854775807 by omega)]
      refine ifA_dec (fun h4 => ?_) (fun h4 => ?_)
      · refine LoopN.of (i + 1) rfl ⟨h3, ?_⟩ (by omega)
        rw [List.take_succ_eq_append_getElem h3, List.take_succ_eq_append_getElem (show i < l2.length by omega), hv, h4]
      · try simp
        rintro rfl
        exact h4 rfl
    · rw [List.take_of_length_le (by omega), List.take_of_length_le (by omega)] at hv
      simp [hv]
  · try simp
    rintro rfl
    exact h rfl
theorem eqProgram_ac {o1 o2 : Bool} {l1 l2 : List Ins} {s1 s2 : Value} {F1 F2 : List Nat} {H : Heap} (hs1 : CodeR o1 H l1 [s1] F1) (hs2 : CodeR o2 H l2 [s2] F2) : AC Tryz.prog ng 153 [.agg #[s1], .agg #[s2]] H fun v S' => v = .bool (decide (l1 = l2)) ∧ S' = H := by
  obtain ⟨a1, z1, rfl⟩ := hs1.form
  obtain ⟨a2, z2, rfl⟩ := hs2.form
  refine .flat (AC.go [] Tryz.func153 rfl Tryz.ntmps153 rfl ⟨mixed, by kernel_rfl⟩ ?_)
  simp +contextual (dsimp := false)
  refine CallK.fl ⟨_, Tryz.func193, rfl, rfl⟩ (eqInsS_ac (Rp.ext hs1 (Ext.app _ _)) (Rp.ext hs2 (Ext.app _ _))) ?_
  simp +contextual (dsimp := false)
  simp [ifA_ite]
theorem toInsS_ac {own : Bool} {l : List Ins} {s : Value} {F : List Nat} {H : Heap} (hs : CodeR own H l [s] F) (hl : l.length ≤ 1048576) : AC Tryz.prog ng 176 [s] H fun v S' => ∃ F', Ext H S' ∧ CodeR true S' l [v] F' ∧ Fresh H.length F' := by
  obtain ⟨a, z, rfl⟩ := hs.form
  have hb := hs.bound
  refine AC.go [] Tryz.func176 rfl Tryz.ntmps176 rfl ⟨mixed, by kernel_rfl⟩ ?_
  simp +contextual (dsimp := false)
  obtain ⟨hm, hr⟩ := SlR.make (H := H) (R := InsR) slt52 zer177 Ins.zero (fun H => ⟨rfl, rfl, Ins.zero_ok⟩) (show l.length * 32 ≤ 281474976710656 by omega) hb
  refine MakeK.of hm ?_
  simp +contextual (dsimp := false)
  refine LoopA.by (σ := Nat × Heap) [0, 3, 4] (fun x => ⟨slots 0 23 [(0, .slice a l.length z), (3, .slice (some ⟨H.length, 0, none⟩) l.length 3), (4, int x.1)], x.2⟩)
    (fun x => x.1 ≤ l.length ∧ Ext H x.2 ∧ CodeR true x.2 (partL l Ins.zero x.1) [.slice (some ⟨H.length, 0, none⟩) l.length 3] [H.length]) (fun x => l.length - x.1) (0, _) rfl ⟨by simp, by simp, by rw [partL_z]; exact hr⟩ ?_
  rintro ⟨i, hp⟩ ⟨hi, he, hv⟩
  dsimp only at hi he hv
  simp +contextual (dsimp := false)
  refine ifA_dec (fun h3 => ?_) (fun h3 => ?_)
  · obtain ⟨id, o, c, e, f, ow, cs, Fi, E⟩ := SlR.get (Rp.ext hs he) i h3
    obtain ⟨rfl, rfl, hok⟩ := E.rep
    obtain ⟨id', o', c', e', f', ow', cs', Fi', E'⟩ := SlR.get hv i (by rw [partL_length _ _ _ hi]; exact h3)
    obtain ⟨_, rfl, _⟩ := E'.rep
    obtain rfl := E'.own' rfl
    simp +contextual (dsimp := false) [E.idx, E.goB, E.le, E.ext, Ins.c]
    refine CallK.fl ⟨_, Tryz.func215, rfl, rfl⟩ (toIns_ac l[i] _) ?_
    simp +contextual (dsimp := false) [wrap_succ (show i < 9223372036854775807 by omega), E'.idx, E'.goB, E'.le, Ins.c]
    have hid : id' = H.length := by simpa using E'.mem
    have hset := E'.set (by simp) rfl rfl (show InsR hp l[i] l[i].c [] from ⟨rfl, rfl, hok⟩)
    rw [partL_s _ _ _ h3] at hset
    exact LoopN.of (i + 1, _) rfl ⟨h3, he.set (by omega) _, hset⟩ (by dsimp only; omega)
  · rw [partL_all _ _ _ (by omega)] at hv
    exact ⟨he, _, hv, by simp, by simp⟩
theorem toProgram_ac {own : Bool} {l : List Ins} {s : Value} {F : List Nat} {H : Heap} (hs : CodeR own H l [s] F) (hl : l.length ≤ 1048576) : AC Tryz.prog ng 144 [.agg #[s]] H fun v S' => ∃ s' F', v = .agg #[s'] ∧ Ext H S' ∧ CodeR true S' l [s'] F' ∧ Fresh H.length F' := by
  obtain ⟨a, z, rfl⟩ := hs.form
  refine AC.go [] Tryz.func144 rfl Tryz.ntmps144 rfl ⟨mixed, by kernel_rfl⟩ ?_
  simp +contextual (dsimp := false)
  refine CallK.of ⟨_, Tryz.func176, rfl, rfl⟩ (toInsS_ac (Rp.ext hs (Ext.app _ _)) hl) ?_
  rintro v S' ⟨F', he, hv, hf⟩
  obtain ⟨a', z', rfl⟩ := hv.form
  obtain ⟨G, rfl⟩ := he.split
  simp only [List.append_assoc, List.cons_append, List.nil_append] at hv
  simp at hf
  simp +contextual (dsimp := false)
  exact ⟨F', Rp.fr hv fun i hi => by exact fr_drop 3 (by rfl) (hf.1 i hi), fun i hi => by have := hf.1 i hi; omega, hf.2⟩
end Go.Proofs.YtbigpkfdeaigeaaGreatDoor

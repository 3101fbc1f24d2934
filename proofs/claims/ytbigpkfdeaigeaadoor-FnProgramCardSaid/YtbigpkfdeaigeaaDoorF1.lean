import Derived.Test.YtbigpkfdeaigeaaDoorDat
import Derived.Test.YtbigpkfdeaigeaaDoorTypes
import Derived.KernelRfl
/- The orders that the program's text leaves open. No condition. -/
namespace Go.Proofs.YtbigpkfdeaigeaaDoor
open Go Go.Am
theorem mixed : Tryd.prog.follows .mixedOrders = true := by kernel_rfl
end Go.Proofs.YtbigpkfdeaigeaaDoor

/- The program's and the reference's tests of an instruction and of a program. No condition. -/
namespace Go.Proofs.YtbigpkfdeaigeaaDoor
open Go Go.Am Go.Proofs
set_option maxRecDepth 20000
variable {ng : Nat}
theorem top_ac (op : Int) (H : Heap) : AC Tryd.prog ng 44 [int op] H fun v S' => v = int (topN op) ∧ S' = H := by
  refine AC.go [] Tryd.func44 rfl Tryd.ntmps44 rfl ⟨mixed, by kernel_rfl⟩ ?_
  simp +contextual (dsimp := false)
  unfold topN
  simp only [ifA_ite, decide_eq_true_eq]
  repeat' split
  all_goals first | rfl | omega
theorem valid_ac (x : Ins) (H : Heap) : AC Tryd.prog ng 34 [.agg x.c.toArray] H fun v S' => v = .bool x.valid ∧ S' = H := by
  refine .flat (AC.go [(3, .take 0 <| .take 1 <| .take 2 <| .take 3 <| .take 4 <| .take 6 <| .take 5 <| .take 7 <| .one 8 [5] <| .take 9 <| .take 10 <| .take 11 <| .take 12 <| .done)] Tryd.func34 rfl Tryd.ntmps34 rfl ⟨mixed, by kernel_rfl⟩ ?_)
  simp +contextual (dsimp := false) [Ins.c]
  repeat' refine ifA_dec (fun _ => ?_) (fun _ => ?_)
  all_goals try (refine CallK.fl ⟨_, Tryd.func44, rfl, rfl⟩ (top_ac _ _) ?_; simp +contextual (dsimp := false))
  all_goals simp [Ins.valid, maxI]
  all_goals grind
theorem l1Word_ac (op : Int) (H : Heap) : AC Tryd.prog ng 48 [int op] H fun v S' => v = .tuple #[str (wordOf op).1, int (wordOf op).2] ∧ S' = H := by
  refine AC.go [] Tryd.func48 rfl Tryd.ntmps48 rfl ⟨mixed, by kernel_rfl⟩ ?_
  simp (dsimp := false)
  unfold wordOf
  repeat' refine ifA_dec (fun h => ?_) (fun h => ?_)
  all_goals simp [*]
theorem validProgram_ac {own : Bool} {p : List Ins} {s : Value} {F : List Nat} {H : Heap} (hs : CodeR own H p [s] F) : AC Tryd.prog ng 16 [.agg #[s]] H fun v S' => v = .bool (validP p) ∧ S' = H := by
  obtain ⟨a, z, rfl⟩ := hs.form
  refine .flat (AC.go [] Tryd.func16 rfl Tryd.ntmps16 rfl ⟨mixed, by kernel_rfl⟩ ?_)
  simp +contextual (dsimp := false)
  refine ifA_dec (fun h1 => ?_) (fun h1 => ?_)
  · simp [validP]; omega
  refine ifA_dec (fun h2 => ?_) (fun h2 => ?_)
  · simp [validP]; omega
  refine LoopA.by (σ := Nat × Heap) [16, 17, 18] (fun x => ⟨slots 0 26 [(16, .slice a p.length z), (17, int p.length), (18, int x.1)], x.2⟩) (fun x => x.1 ≤ p.length ∧ Ext H x.2 ∧ ∀ y ∈ p.take x.1, y.valid = true) (fun x => p.length - x.1) (0, _) rfl (by simp) ?_
  rintro ⟨i, hp⟩ ⟨hi, he, hv⟩
  dsimp only at hi he hv
  simp +contextual (dsimp := false)
  refine ifA_dec (fun h3 => ?_) (fun h3 => ?_)
  · obtain ⟨id, o, c, e, f, ow, cs, Fi, E⟩ := SlR.get (Rp.ext hs he) i h3
    obtain ⟨rfl, rfl, hok⟩ := E.rep
    simp +contextual (dsimp := false) [E.idx, E.goB, E.le, E.ext, Ins.c]
    refine CallK.fl ⟨_, Tryd.func34, rfl, rfl⟩ (valid_ac p[i] _) ?_
    simp +contextual (dsimp := false) [wrap_succ (show i < 9223372036854775807 by omega)]
    refine ifA_intro (fun h4 => ?_) (fun h4 => ?_)
    · refine LoopN.of (i + 1, _) rfl ⟨h3, he.trans (Ext.app _ _), fun y hy => ?_⟩ (by dsimp only; omega)
      rw [List.take_succ_eq_append_getElem h3, List.mem_append] at hy
      rcases hy with hy | hy
      · exact hv y hy
      · simp at hy; rw [hy]; exact h4
    · simp [validP, he]
      intro _ _
      exact ⟨p[i], List.getElem_mem h3, h4⟩
  · have : p.take i = p := List.take_of_length_le (by omega)
    rw [this] at hv
    simp [validP, he]
    exact ⟨⟨by omega, by omega⟩, hv⟩
theorem word_out {op : Int} (h : ¬ (1 ≤ op ∧ op ≤ 15)) : wordOf op = ([], 0) := by
  unfold wordOf
  repeat rw [if_neg (by omega)]
theorem word_in {op : Int} (h : 1 ≤ op ∧ op ≤ 15) : ∃ m : Fin 15, op = ((m.val + 1 : Nat) : Int) := ⟨⟨op.toNat - 1, by omega⟩, by simp only []; omega⟩
theorem word1 (op : Int) : (wordOf op).1 = [] ↔ ¬ (1 ≤ op ∧ op ≤ 15) := by
  by_cases h : 1 ≤ op ∧ op ≤ 15
  · obtain ⟨m, rfl⟩ := word_in h
    revert m
    decide
  · rw [word_out h]
    simp
    omega
theorem word2 (op : Int) : (wordOf op).2 = 1 ↔ op = 1 := by
  by_cases h : 1 ≤ op ∧ op ≤ 15
  · obtain ⟨m, rfl⟩ := word_in h
    revert m
    decide
  · rw [word_out h]
    simp
    omega
theorem word3 (op : Int) : (wordOf op).2 = 2 ↔ (op = 3 ∨ op = 4 ∨ op = 5) := by
  by_cases h : 1 ≤ op ∧ op ≤ 15
  · obtain ⟨m, rfl⟩ := word_in h
    revert m
    decide
  · rw [word_out h]
    simp
    omega
theorem word4 (op : Int) : (wordOf op).2 = 3 ↔ (op = 10 ∨ op = 11) := by
  by_cases h : 1 ≤ op ∧ op ≤ 15
  · obtain ⟨m, rfl⟩ := word_in h
    revert m
    decide
  · rw [word_out h]
    simp
    omega
theorem l1InsOk_ac (x : Ins) (H : Heap) : AC Tryd.prog ng 33 [.agg x.c.toArray] H fun v S' => v = .bool x.valid ∧ S' = H := by
  refine .flat (AC.go [] Tryd.func33 rfl Tryd.ntmps33 rfl ⟨mixed, by kernel_rfl⟩ ?_)
  simp +contextual (dsimp := false) [Ins.c]
  refine CallK.fl ⟨_, Tryd.func48, rfl, rfl⟩ (l1Word_ac _ _) ?_
  simp +contextual (dsimp := false)
  repeat' refine ifA_dec (fun _ => ?_) (fun _ => ?_)
  all_goals simp only [word1, word2, word3, word4] at *
  all_goals simp [Ins.valid, topN]
  all_goals grind
theorem specValid_ac {own : Bool} {p : List Ins} {s : Value} {F : List Nat} {H : Heap} (hs : CodeR own H p [s] F) : AC Tryd.prog ng 15 [.agg #[s]] H fun v S' => v = .bool (validP p) ∧ S' = H := by
  obtain ⟨a, z, rfl⟩ := hs.form
  refine .flat (AC.go [] Tryd.func15 rfl Tryd.ntmps15 rfl ⟨mixed, by kernel_rfl⟩ ?_)
  have hl := hs.bound
  simp +contextual (dsimp := false)
  refine LoopA.by (σ := Nat) [1, 3] (fun i => ⟨slots 0 28 [(1, .pointer (some ⟨H.length, 0, none⟩)), (3, int i)], _⟩) (fun i => i ≤ p.length ∧ ∀ y ∈ p.take i, y.valid = true) (fun i => p.length - i) 0 rfl (by simp) ?_
  rintro i ⟨hi, hv⟩
  simp +contextual (dsimp := false)
  refine ifA_dec (fun h3 => ?_) (fun h3 => ?_)
  · obtain ⟨id, o, c, e, f, ow, cs, Fi, E⟩ := SlR.get hs i h3
    obtain ⟨rfl, rfl, hok⟩ := E.rep
    simp +contextual (dsimp := false) [E.idx, E.goB, E.lt, E.le, E.ext, Ins.c]
    refine CallK.fl ⟨_, Tryd.func33, rfl, rfl⟩ (l1InsOk_ac p[i] _) ?_
    simp +contextual (dsimp := false) [wrap_succ (show i < 9223372036854775807 by omega)]
    refine ifA_intro (fun h4 => ?_) (fun h4 => ?_)
    · refine LoopN.of (i + 1) rfl ⟨h3, fun y hy => ?_⟩ (by omega)
      rw [List.take_succ_eq_append_getElem h3, List.mem_append] at hy
      rcases hy with hy | hy
      · exact hv y hy
      · simp at hy; rw [hy]; exact h4
    · simp [validP]
      intro _ _
      exact ⟨p[i], List.getElem_mem h3, h4⟩
  · have : p.take i = p := List.take_of_length_le (by omega)
    rw [this] at hv
    refine ifA_dec (fun h4 => ?_) (fun h4 => ?_)
    · simp [validP]
      grind
    · simp [validP]
      grind
end Go.Proofs.YtbigpkfdeaigeaaDoor

/- What the program's functions on names and spaces compute. No condition. -/
import Derived.Test.YtbigpkfdeaigeaaGreatDoorDat2
import Derived.Lib.Strings
namespace Go.Am
open Go
set_option linter.unusedSimpArgs false
set_option linter.unusedVariables false

def nameB (b : UInt8) : Bool := decide (33 ≤ b.toNat) && decide (b.toNat ≤ 126)
def nameOk (s : List UInt8) : Bool := decide (1 ≤ s.length) && decide (s.length ≤ 60) && s.all nameB
theorem nameOk_bad {s : List UInt8} {i : Nat} (h : i < s.length) (hb : nameB s[i] = false) : nameOk s = false := by
  have : s.all nameB = false := List.all_eq_false.2 ⟨s[i], List.getElem_mem h, by simp [hb]⟩
  simp [nameOk, this]
theorem nameOk_all {s : List UInt8} (h : ∀ y ∈ s, nameB y = true) : nameOk s = (decide (1 ≤ s.length) && decide (s.length ≤ 60)) := by
  have : s.all nameB = true := List.all_eq_true.2 h
  simp [nameOk, this]
def asc : List (List UInt8) → Bool
  | a :: b :: r => ltS a b && asc (b :: r)
  | _ => true
theorem ltS_iff : ∀ (a b : List UInt8), ltS a b = true ↔ a < b
  | _, [] => by simp [ltS, Op.bytesLess]
  | [], _ :: _ => by simp [ltS, Op.bytesLess]
  | a :: x, b :: y => by
    have ih := ltS_iff x y
    simp only [ltS, Op.bytesLess, Bool.or_eq_true, decide_eq_true_eq, Bool.and_eq_true, beq_iff_eq, List.cons_lt_cons_iff] at ih ⊢
    rw [ih]
theorem ltS_irrefl (a : List UInt8) : ltS a a = false := by rw [Bool.eq_false_iff, Ne, ltS_iff]; exact List.lt_irrefl a
theorem ltS_trans {a b c : List UInt8} (h1 : ltS a b = true) (h2 : ltS b c = true) : ltS a c = true := by rw [ltS_iff] at *; exact List.lt_trans h1 h2
theorem ltS_total {a b : List UInt8} (h : ltS a b = false) (hne : a ≠ b) : ltS b a = true := by
  rw [ltS_iff]
  have h' : ¬ a < b := by rw [← ltS_iff]; simp [h]
  rcases List.le_total a b with h1 | h1
  · rcases Decidable.em (b ≤ a) with h2 | h2
    · exact absurd (List.le_antisymm h1 h2) hne
    · exact absurd (List.not_le.1 h2) h'
  · rcases Decidable.em (a ≤ b) with h2 | h2
    · exact absurd (List.le_antisymm h2 h1) hne
    · exact List.not_le.1 h2
def sNames (x : Spc) : List (List UInt8) := x.sources.map (·.name)
def tNames (x : Spc) : List (List UInt8) := x.targets.map (·.name)
def checkSpace (x : Spc) : Int :=
  if 200 < x.sources.length + x.targets.length then 1
  else if ¬ (∀ s ∈ x.sources, nameOk s.name = true) ∨ ¬ (∀ s ∈ x.targets, nameOk s.name = true) then 2
  else if asc (sNames x) = false then 3
  else if asc (tNames x) = false then 4
  else if ¬ (∀ s ∈ x.sources, s.name ∉ tNames x) then 5
  else if ¬ (∀ s ∈ x.sources, s.text.length ≤ 2000) then 6
  else if ¬ (∀ t ∈ x.targets, validP t.action = true) then 7 else 0
/-- A space without what lies under a name. -/
def wout (x : Spc) (n : List UInt8) : Spc := ⟨x.sources.filter fun s => decide (s.name ≠ n), x.targets.filter fun t => decide (t.name ≠ n)⟩
theorem validP_len {l : List Ins} (h : validP l = true) : 1 ≤ l.length ∧ l.length ≤ 200 := by
  simp only [validP, Bool.and_eq_true, decide_eq_true_eq] at h
  exact h.1
/-- Drop: the space and the code. -/
def drop (x : Spc) (n : List UInt8) : Spc × Int :=
  if checkSpace x ≠ 0 then (⟨[], []⟩, 1) else if nameOk n = false then (⟨[], []⟩, 2) else if ¬ (n ∈ sNames x ∨ n ∈ tNames x) then (⟨[], []⟩, 4) else (wout x n, 0)
theorem sumN_mul {α : Type} (m w : α → Nat) (c : Nat) (h : ∀ x, m x ≤ c * (w x + 1)) (l : List α) : sumN m l ≤ c * wL w l := by
  induction l with
  | nil => simp [sumN]
  | cons x l ih =>
    have hx := h x
    have e : wL w (x :: l) = w x + 1 + wL w l := by simp [wL]; omega
    rw [sumN_cons, e, Nat.mul_add]
    omega
theorem Ins.m_le (l : List Ins) : sumN Ins.m l ≤ 4 * wL Ins.w l := sumN_mul _ _ 4 (fun x => by simp only [Ins.m]; omega) l
theorem Sou.m_le (l : List Sou) : sumN Sou.m l ≤ 4 * wL Sou.w l := sumN_mul _ _ 4 (fun x => by simp only [Sou.m]; omega) l
theorem Lnk.m_le (l : List Lnk) : sumN Lnk.m l ≤ 4 * wL Lnk.w l := sumN_mul _ _ 4 (fun x => by simp only [Lnk.m]; omega) l
theorem Tgt.m_le (l : List Tgt) : sumN Tgt.m l ≤ 4 * wL Tgt.w l := sumN_mul _ _ 4 (fun x => by have := Ins.m_le x.action; simp only [Tgt.m, Tgt.w]; omega) l
theorem Deed.m_le (l : List Deed) : sumN Deed.m l ≤ 4 * wL Deed.w l := sumN_mul _ _ 4 (fun x => by have := Ins.m_le x.action; have := Lnk.m_le x.links; simp only [Deed.m, Deed.w]; omega) l
theorem Spc.m_le (x : Spc) : x.m ≤ 4 * x.w := by have := Sou.m_le x.sources; have := Tgt.m_le x.targets; simp only [Spc.m, Spc.w]; omega
/-- A test of all members, one by one. -/
theorem all_take {α : Type} {l : List α} {p : α → Prop} {i : Nat} (h : ∀ y ∈ l.take i, p y) (hi : i < l.length) (hp : p l[i]) : ∀ y ∈ l.take (i + 1), p y := by
  intro y hy
  rw [List.take_succ_eq_append_getElem hi, List.mem_append] at hy
  rcases hy with hy | hy
  · exact h y hy
  · simp at hy; rw [hy]; exact hp
theorem all_end {α : Type} {l : List α} {p : α → Prop} {i : Nat} (h : ∀ y ∈ l.take i, p y) (hi : l.length ≤ i) : ∀ y ∈ l, p y := by
  rwa [List.take_of_length_le hi] at h
end Go.Am

/- What the program's functions on names and spaces compute. No condition. -/
import Derived.Test.YtephpieeibcihaaGreatDoorDat2
import Derived.Lib.Strings
namespace Go.Am
open Go
set_option linter.unusedSimpArgs false
set_option linter.unusedVariables false

def nameB (b : UInt8) : Bool := decide (33 ≤ b.toNat) && decide (b.toNat ≤ 126)
def nameOk (s : List UInt8) : Bool := decide (1 ≤ s.length) && decide (s.length ≤ 60) && s.all nameB
theorem nameOk_bad {s : List UInt8} {i : Nat} (h : i < s.length) (hb : nameB s[i] = false) : nameOk s = false := by
  have : s.all nameB = false := List.all_eq_false.2 ⟨s[i], List.getElem_mem h, by simp [hb]⟩
  simp [nameOk, this]
theorem nameOk_all {s : List UInt8} (h : ∀ y ∈ s, nameB y = true) : nameOk s = (decide (1 ≤ s.length) && decide (s.length ≤ 60)) := by
  have : s.all nameB = true := List.all_eq_true.2 h
  simp [nameOk, this]
/-- -1, 0 or 1. -/
def cmpS (a b : List UInt8) : Int := if ltS a b then -1 else if a = b then 0 else 1
def asc : List (List UInt8) → Bool
  | a :: b :: r => ltS a b && asc (b :: r)
  | _ => true
theorem asc_iff : ∀ (l : List (List UInt8)), asc l = true ↔ ∀ j (h : j + 1 < l.length), ltS l[j] l[j + 1] = true
  | [] => by simp [asc]
  | [a] => by simp [asc]
  | a :: b :: r => by
    simp only [asc, Bool.and_eq_true]
    rw [asc_iff (b :: r)]
    constructor
    · rintro ⟨h1, h2⟩ j h
      cases j with
      | zero => exact h1
      | succ j => exact h2 j (by simpa using h)
    · intro h
      exact ⟨h 0 (by simp), fun j hj => h (j + 1) (by simpa using hj)⟩
theorem ltS_iff : ∀ (a b : List UInt8), ltS a b = true ↔ a < b
  | _, [] => by simp [ltS, Op.bytesLess]
  | [], _ :: _ => by simp [ltS, Op.bytesLess]
  | a :: x, b :: y => by
    have ih := ltS_iff x y
    simp only [ltS, Op.bytesLess, Bool.or_eq_true, decide_eq_true_eq, Bool.and_eq_true, beq_iff_eq, List.cons_lt_cons_iff] at ih ⊢
    rw [ih]
theorem ltS_irrefl (a : List UInt8) : ltS a a = false := by rw [Bool.eq_false_iff, Ne, ltS_iff]; exact List.lt_irrefl a
theorem ltS_trans {a b c : List UInt8} (h1 : ltS a b = true) (h2 : ltS b c = true) : ltS a c = true := by rw [ltS_iff] at *; exact List.lt_trans h1 h2
theorem cmpS_lt (a b : List UInt8) : (cmpS a b < 0) = (ltS a b = true) := by
  unfold cmpS
  split
  · rename_i h; simp [h]
  · rename_i h
    split <;> simp [h]
theorem cmpS_z (a b : List UInt8) : (cmpS a b = 0) = (a = b) := by
  unfold cmpS
  split
  · rename_i h
    apply propext
    constructor
    · intro h'; cases h'
    · rintro rfl; rw [ltS_irrefl] at h; cases h
  · split <;> simp_all
/-- In ascending lists the order of the places is that of the members. -/
theorem asc_lt {l : List (List UInt8)} (h : asc l = true) : ∀ (i j : Nat) (hj : j < l.length) (hij : i < j), ltS (l[i]'(by omega)) l[j] = true := by
  rw [asc_iff] at h
  intro i j hj hij
  obtain ⟨d, rfl⟩ : ∃ d, j = i + 1 + d := ⟨j - i - 1, by omega⟩
  induction d with
  | zero => exact h i hj
  | succ d ih => exact ltS_trans (ih (by omega) (by omega)) (h (i + 1 + d) (by omega))

/-- Binary search: the place. -/
def bsI (lt : Nat → Bool) (i j : Nat) : Nat := if h : i < j then (if lt ((i + j) / 2) then bsI lt ((i + j) / 2 + 1) j else bsI lt i ((i + j) / 2)) else i
termination_by j - i
theorem bsI_stop (lt : Nat → Bool) {i j : Nat} (h : ¬ i < j) : bsI lt i j = i := by rw [bsI, dif_neg h]
theorem bsI_up (lt : Nat → Bool) {i j : Nat} (h : i < j) (hl : lt ((i + j) / 2) = true) : bsI lt i j = bsI lt ((i + j) / 2 + 1) j := by rw [bsI, dif_pos h, if_pos hl]
theorem bsI_down (lt : Nat → Bool) {i j : Nat} (h : i < j) (hl : lt ((i + j) / 2) = false) : bsI lt i j = bsI lt i ((i + j) / 2) := by rw [bsI, dif_pos h, if_neg (by simp [hl])]
theorem bsI_spec (lt : Nat → Bool) (n : Nat) (hm : ∀ a b, a ≤ b → b < n → lt b = true → lt a = true) (i j : Nat) (hij : i ≤ j) (hj : j ≤ n) (h1 : ∀ a, a < i → lt a = true) (h2 : ∀ b, j ≤ b → b < n → lt b = false) :
    i ≤ bsI lt i j ∧ bsI lt i j ≤ j ∧ (∀ a, a < bsI lt i j → lt a = true) ∧ (∀ b, bsI lt i j ≤ b → b < n → lt b = false) := by
  rw [bsI]
  split
  · rename_i h
    split
    · rename_i hl
      obtain ⟨q1, q2, q3, q4⟩ := bsI_spec lt n hm ((i + j) / 2 + 1) j (by omega) hj (fun a ha => hm a _ (by omega) (by omega) hl) h2
      exact ⟨by omega, q2, q3, q4⟩
    · rename_i hl
      have hl' : lt ((i + j) / 2) = false := by simpa using hl
      obtain ⟨q1, q2, q3, q4⟩ := bsI_spec lt n hm i ((i + j) / 2) (by omega) (by omega) h1 (fun b hb hb' => by
        rw [Bool.eq_false_iff]
        intro hc
        rw [hm _ b hb hb' hc] at hl'
        cases hl')
      exact ⟨q1, by omega, q3, q4⟩
  · rename_i h
    exact ⟨Nat.le_refl _, hij, h1, fun b hb hb' => h2 b (by omega) hb'⟩
termination_by j - i
/-- What a search among names finds. -/
def bsP (l : List (List UInt8)) (x : List UInt8) : Nat := bsI (fun h => ltS (l.getD h []) x) 0 l.length
def bsF (l : List (List UInt8)) (x : List UInt8) : Bool := decide (bsP l x < l.length ∧ l.getD (bsP l x) [] = x)
theorem bsP_spec {l : List (List UInt8)} (ha : asc l = true) (x : List UInt8) : bsP l x ≤ l.length ∧ (∀ a (h : a < l.length), a < bsP l x → ltS l[a] x = true) ∧ ∀ b (h : b < l.length), bsP l x ≤ b → ltS l[b] x = false := by
  have hd : ∀ a (h : a < l.length), l.getD a [] = l[a] := fun a h => by simp [List.getD, h]
  obtain ⟨q1, q2, q3, q4⟩ := bsI_spec (fun h => ltS (l.getD h []) x) l.length (fun a b hab hb hlt => by
    rcases Nat.lt_or_ge a b with h | h
    · simp only [hd _ hb] at hlt
      simp only [hd a (by omega)]
      exact ltS_trans (asc_lt ha a b hb h) hlt
    · obtain rfl : a = b := by omega
      exact hlt) 0 l.length (Nat.zero_le _) (Nat.le_refl _) (fun a h => by omega) (fun b h1 h2 => by omega)
  exact ⟨q2, fun a h hlt => by have := q3 a hlt; simpa only [hd a h] using this, fun b h hle => by have := q4 b hle h; simpa only [hd b h] using this⟩
theorem bsF_iff {l : List (List UInt8)} (ha : asc l = true) (x : List UInt8) : bsF l x = decide (x ∈ l) := by
  obtain ⟨h1, h2, h3⟩ := bsP_spec ha x
  unfold bsF
  rw [Bool.eq_iff_iff, decide_eq_true_iff, decide_eq_true_iff]
  constructor
  · rintro ⟨a, b⟩
    rw [← b]
    have : l.getD (bsP l x) [] = l[bsP l x] := by simp [List.getD, a]
    rw [this]
    exact List.getElem_mem a
  · intro hm
    obtain ⟨j, hj, rfl⟩ := List.mem_iff_getElem.1 hm
    have hle : ¬ j < bsP l l[j] := fun hlt => by have := h2 j hj hlt; rw [ltS_irrefl] at this; cases this
    have hge : ¬ bsP l l[j] < j := fun hlt => by
      have a := h3 _ (by omega) (Nat.le_refl (bsP l l[j]))
      rw [asc_lt ha _ j hj hlt] at a
      cases a
    have e : bsP l l[j] = j := by omega
    rw [e]
    simp [List.getD, hj]
def sNames (x : Spc) : List (List UInt8) := x.sources.map (·.name)
def tNames (x : Spc) : List (List UInt8) := x.targets.map (·.name)
def checkSpace (x : Spc) : Int :=
  if 200 < x.sources.length + x.targets.length then 1
  else if ¬ (∀ s ∈ x.sources, nameOk s.name = true) ∨ ¬ (∀ s ∈ x.targets, nameOk s.name = true) then 2
  else if asc (sNames x) = false then 3
  else if asc (tNames x) = false then 4
  else if ¬ (∀ s ∈ x.sources, s.name ∉ tNames x) then 5
  else if ¬ (∀ s ∈ x.sources, s.text.length ≤ 2000) then 6
  else if ¬ (∀ t ∈ x.targets, validP t.action = true) then 7 else 0
theorem asc_bad {l : List (List UInt8)} {j : Nat} (h : j + 1 < l.length) (hb : ltS l[j] l[j + 1] = false) : asc l = false := by
  rw [Bool.eq_false_iff, Ne, asc_iff]
  intro hc
  rw [hc j h] at hb
  cases hb
/-- The first place of a name, -1 if there is none. -/
def findI (l : List (List UInt8)) (n : List UInt8) : Int := if n ∈ l then (l.idxOf n : Int) else -1
theorem findI_hit {l : List (List UInt8)} {n : List UInt8} {i : Nat} (h : i < l.length) (he : l[i] = n) (hb : ∀ y ∈ l.take i, y ≠ n) : findI l n = i := by
  have hm : n ∈ l := he ▸ List.getElem_mem h
  have : l.idxOf n = i := by
    have e : l = l.take i ++ (n :: l.drop (i + 1)) := by
      rw [← he]; simp
    rw [e, List.idxOf_append, if_neg (fun hc => hb n hc rfl)]
    simp
    omega
  rw [findI, if_pos hm, this]
theorem findI_miss {l : List (List UInt8)} {n : List UInt8} (h : ∀ y ∈ l, y ≠ n) : findI l n = -1 := by
  rw [findI, if_neg (fun hm => h n hm rfl)]
theorem findI_neg (l : List (List UInt8)) (n : List UInt8) : (findI l n < 0) = (n ∉ l) := by
  unfold findI
  split
  · rename_i h; simp [h]
  · rename_i h; simp [h]
theorem findI_ge (l : List (List UInt8)) (n : List UInt8) : (0 ≤ findI l n) = (n ∈ l) := by
  unfold findI
  split
  · rename_i h; simp [h]
  · rename_i h; simp [h]
/-- A space without what lies under a name. -/
def wout (x : Spc) (n : List UInt8) : Spc := ⟨x.sources.filter fun s => decide (s.name ≠ n), x.targets.filter fun t => decide (t.name ≠ n)⟩
theorem checkSpace_ok {x : Spc} (h : checkSpace x = 0) : x.sources.length + x.targets.length ≤ 200 ∧ (∀ s ∈ x.sources, nameOk s.name = true) ∧ (∀ s ∈ x.targets, nameOk s.name = true) ∧ asc (sNames x) = true ∧ asc (tNames x) = true ∧
    (∀ s ∈ x.sources, s.name ∉ tNames x) ∧ (∀ s ∈ x.sources, s.text.length ≤ 2000) ∧ (∀ t ∈ x.targets, validP t.action = true) := by
  unfold checkSpace at h
  split at h
  · cases h
  rename_i h1
  split at h
  · cases h
  rename_i h2
  split at h
  · cases h
  rename_i h3
  split at h
  · cases h
  rename_i h4
  split at h
  · cases h
  rename_i h5
  split at h
  · cases h
  rename_i h6
  split at h
  · cases h
  rename_i h7
  refine ⟨by omega, ?_, ?_, by simpa using h3, by simpa using h4, by simpa using h5, by simpa using h6, by simpa using h7⟩
  · exact Classical.byContradiction fun hc => h2 (.inl hc)
  · exact Classical.byContradiction fun hc => h2 (.inr hc)
theorem validP_len {l : List Ins} (h : validP l = true) : 1 ≤ l.length ∧ l.length ≤ 200 := by
  simp only [validP, Bool.and_eq_true, decide_eq_true_eq] at h
  exact h.1
/-- Drop: the space and the code. -/
def drop (x : Spc) (n : List UInt8) : Spc × Int :=
  if checkSpace x ≠ 0 then (⟨[], []⟩, 1) else if nameOk n = false then (⟨[], []⟩, 2) else if ¬ (n ∈ sNames x ∨ n ∈ tNames x) then (⟨[], []⟩, 4) else (wout x n, 0)
theorem sumN_mul {α : Type} (m w : α → Nat) (c : Nat) (h : ∀ x, m x ≤ c * (w x + 1)) (l : List α) : sumN m l ≤ c * wL w l := by
  induction l with
  | nil => simp [sumN]
  | cons x l ih =>
    have hx := h x
    have e : wL w (x :: l) = w x + 1 + wL w l := by simp [wL]; omega
    rw [sumN_cons, e, Nat.mul_add]
    omega
theorem Ins.m_le (l : List Ins) : sumN Ins.m l ≤ 4 * wL Ins.w l := sumN_mul _ _ 4 (fun x => by simp only [Ins.m]; omega) l
theorem Sou.m_le (l : List Sou) : sumN Sou.m l ≤ 4 * wL Sou.w l := sumN_mul _ _ 4 (fun x => by simp only [Sou.m]; omega) l
theorem Lnk.m_le (l : List Lnk) : sumN Lnk.m l ≤ 4 * wL Lnk.w l := sumN_mul _ _ 4 (fun x => by simp only [Lnk.m]; omega) l
theorem Tgt.m_le (l : List Tgt) : sumN Tgt.m l ≤ 4 * wL Tgt.w l := sumN_mul _ _ 4 (fun x => by have := Ins.m_le x.action; simp only [Tgt.m, Tgt.w]; omega) l
theorem Deed.m_le (l : List Deed) : sumN Deed.m l ≤ 4 * wL Deed.w l := sumN_mul _ _ 4 (fun x => by have := Ins.m_le x.action; have := Lnk.m_le x.links; simp only [Deed.m, Deed.w]; omega) l
theorem Spc.m_le (x : Spc) : x.m ≤ 4 * x.w := by have := Sou.m_le x.sources; have := Tgt.m_le x.targets; simp only [Spc.m, Spc.w]; omega
/-- A test of all members, one by one. -/
theorem all_take {α : Type} {l : List α} {p : α → Prop} {i : Nat} (h : ∀ y ∈ l.take i, p y) (hi : i < l.length) (hp : p l[i]) : ∀ y ∈ l.take (i + 1), p y := by
  intro y hy
  rw [List.take_succ_eq_append_getElem hi, List.mem_append] at hy
  rcases hy with hy | hy
  · exact h y hy
  · simp at hy; rw [hy]; exact hp
theorem mem_take_s {α : Type} {l : List α} {i : Nat} {y : α} (h : y ∈ l.take i) : y ∈ l.take (i + 1) := (List.take_prefix_take_left (Nat.le_succ i)).subset h
theorem get_take_s {α : Type} {l : List α} {i : Nat} (h : i < l.length) : l[i] ∈ l.take (i + 1) := by
  rw [List.take_succ_eq_append_getElem h]
  exact List.mem_append_right _ (List.mem_singleton.2 rfl)
theorem all_end {α : Type} {l : List α} {p : α → Prop} {i : Nat} (h : ∀ y ∈ l.take i, p y) (hi : l.length ≤ i) : ∀ y ∈ l, p y := by
  rwa [List.take_of_length_le hi] at h
end Go.Am

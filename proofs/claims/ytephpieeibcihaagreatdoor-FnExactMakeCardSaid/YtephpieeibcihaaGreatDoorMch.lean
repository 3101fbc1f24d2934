import Derived.Test.YtephpieeibcihaaGreatDoorDat2
import Derived.Lib.Strings
set_option linter.all false
namespace Go.Am
open Go
def nameB (b : UInt8) : Bool := decide (33 ≤ b.toNat) && decide (b.toNat ≤ 126)
def nameOk (s : List UInt8) : Bool := decide (1 ≤ s.length) && decide (s.length ≤ 60) && s.all nameB
theorem nameOk_bad {s : List UInt8} {i : Nat} (h : i < s.length) (hb : nameB s[i] = false) : nameOk s = false := by
  have : s.all nameB = false := List.all_eq_false.2 ⟨s[i], List.getElem_mem h, by simp [hb]⟩
  simp [nameOk, this]
theorem nameOk_all {s : List UInt8} (h : ∀ y ∈ s, nameB y = true) : nameOk s = (decide (1 ≤ s.length) && decide (s.length ≤ 60)) := by
  have : s.all nameB = true := List.all_eq_true.2 h
  simp [nameOk, this]
theorem nameOk_len {s : List UInt8} (h : nameOk s = true) : 1 ≤ s.length ∧ s.length ≤ 60 := by
  simp only [nameOk, Bool.and_eq_true, decide_eq_true_eq] at h
  exact h.1
def cmpS (a b : List UInt8) : Int := if ltS a b then -1 else if a = b then 0 else 1
def asc : List (List UInt8) → Bool
  | a :: b :: r => ltS a b && asc (b :: r)
  | _ => true
theorem asc_iff : ∀ (l : List (List UInt8)), asc l = true ↔ ∀ j (h : j + 1 < l.length), ltS l[j] l[j + 1] = true
  | [] => by simp [asc]
  | [a] => by simp [asc]
  | a :: b :: r => by
    simp only [asc, Bool.and_eq_true]
    rw [asc_iff (b :: r)]
    constructor
    · rintro ⟨h1, h2⟩ j h
      cases j with
      | zero => exact h1
      | succ j => exact h2 j (by simpa using h)
    · intro h
      exact ⟨h 0 (by simp), fun j hj => h (j + 1) (by simpa using hj)⟩
theorem ltS_iff : ∀ (a b : List UInt8), ltS a b = true ↔ a < b
  | _, [] => by simp [ltS, Op.bytesLess]
  | [], _ :: _ => by simp [ltS, Op.bytesLess]
  | a :: x, b :: y => by
    have ih := ltS_iff x y
    simp only [ltS, Op.bytesLess, Bool.or_eq_true, decide_eq_true_eq, Bool.and_eq_true, beq_iff_eq, List.cons_lt_cons_iff] at ih ⊢
    rw [ih]
theorem ltS_irrefl (a : List UInt8) : ltS a a = false := by rw [Bool.eq_false_iff, Ne, ltS_iff]; exact List.lt_irrefl a
theorem ltS_trans {a b c : List UInt8} (h1 : ltS a b = true) (h2 : ltS b c = true) : ltS a c = true := by rw [ltS_iff] at *; exact List.lt_trans h1 h2
theorem cmpS_lt (a b : List UInt8) : (cmpS a b < 0) = (ltS a b = true) := by
  unfold cmpS
  split
  · rename_i h; simp [h]
  · rename_i h
    split <;> simp [h]
theorem cmpS_z (a b : List UInt8) : (cmpS a b = 0) = (a = b) := by
  unfold cmpS
  split
  · rename_i h
    apply propext
    constructor
    · intro h'; cases h'
    · rintro rfl; rw [ltS_irrefl] at h; cases h
  · split <;> simp_all
theorem asc_lt {l : List (List UInt8)} (h : asc l = true) : ∀ (i j : Nat) (hj : j < l.length) (hij : i < j), ltS (l[i]'(by omega)) l[j] = true := by
  rw [asc_iff] at h
  intro i j hj hij
  obtain ⟨d, rfl⟩ : ∃ d, j = i + 1 + d := ⟨j - i - 1, by omega⟩
  induction d with
  | zero => exact h i hj
  | succ d ih => exact ltS_trans (ih (by omega) (by omega)) (h (i + 1 + d) (by omega))
def bsI (lt : Nat → Bool) (i j : Nat) : Nat := if h : i < j then (if lt ((i + j) / 2) then bsI lt ((i + j) / 2 + 1) j else bsI lt i ((i + j) / 2)) else i
termination_by j - i
theorem bsI_stop (lt : Nat → Bool) {i j : Nat} (h : ¬ i < j) : bsI lt i j = i := by rw [bsI, dif_neg h]
theorem bsI_up (lt : Nat → Bool) {i j : Nat} (h : i < j) (hl : lt ((i + j) / 2) = true) : bsI lt i j = bsI lt ((i + j) / 2 + 1) j := by rw [bsI, dif_pos h, if_pos hl]
theorem bsI_down (lt : Nat → Bool) {i j : Nat} (h : i < j) (hl : lt ((i + j) / 2) = false) : bsI lt i j = bsI lt i ((i + j) / 2) := by rw [bsI, dif_pos h, if_neg (by simp [hl])]
theorem bsI_spec (lt : Nat → Bool) (n : Nat) (hm : ∀ a b, a ≤ b → b < n → lt b = true → lt a = true) (i j : Nat) (hij : i ≤ j) (hj : j ≤ n) (h1 : ∀ a, a < i → lt a = true) (h2 : ∀ b, j ≤ b → b < n → lt b = false) :
    i ≤ bsI lt i j ∧ bsI lt i j ≤ j ∧ (∀ a, a < bsI lt i j → lt a = true) ∧ (∀ b, bsI lt i j ≤ b → b < n → lt b = false) := by
  rw [bsI]
  split
  · rename_i h
    split
    · rename_i hl
      obtain ⟨q1, q2, q3, q4⟩ := bsI_spec lt n hm ((i + j) / 2 + 1) j (by omega) hj (fun a ha => hm a _ (by omega) (by omega) hl) h2
      exact ⟨by omega, q2, q3, q4⟩
    · rename_i hl
      have hl' : lt ((i + j) / 2) = false := by simpa using hl
      obtain ⟨q1, q2, q3, q4⟩ := bsI_spec lt n hm i ((i + j) / 2) (by omega) (by omega) h1 (fun b hb hb' => by
        rw [Bool.eq_false_iff]
        intro hc
        rw [hm _ b hb hb' hc] at hl'
        cases hl')
      exact ⟨q1, by omega, q3, q4⟩
  · rename_i h
    exact ⟨Nat.le_refl _, hij, h1, fun b hb hb' => h2 b (by omega) hb'⟩
termination_by j - i
def bsP (l : List (List UInt8)) (x : List UInt8) : Nat := bsI (fun h => ltS (l.getD h []) x) 0 l.length
def bsF (l : List (List UInt8)) (x : List UInt8) : Bool := decide (bsP l x < l.length ∧ l.getD (bsP l x) [] = x)
theorem bsP_spec {l : List (List UInt8)} (ha : asc l = true) (x : List UInt8) : bsP l x ≤ l.length ∧ (∀ a (h : a < l.length), a < bsP l x → ltS l[a] x = true) ∧ ∀ b (h : b < l.length), bsP l x ≤ b → ltS l[b] x = false := by
  have hd : ∀ a (h : a < l.length), l.getD a [] = l[a] := fun a h => by simp [List.getD, h]
  obtain ⟨q1, q2, q3, q4⟩ := bsI_spec (fun h => ltS (l.getD h []) x) l.length (fun a b hab hb hlt => by
    rcases Nat.lt_or_ge a b with h | h
    · simp only [hd _ hb] at hlt
      simp only [hd a (by omega)]
      exact ltS_trans (asc_lt ha a b hb h) hlt
    · obtain rfl : a = b := by omega
      exact hlt) 0 l.length (Nat.zero_le _) (Nat.le_refl _) (fun a h => by omega) (fun b h1 h2 => by omega)
  exact ⟨q2, fun a h hlt => by have := q3 a hlt; simpa only [hd a h] using this, fun b h hle => by have := q4 b hle h; simpa only [hd b h] using this⟩
theorem bsF_iff {l : List (List UInt8)} (ha : asc l = true) (x : List UInt8) : bsF l x = decide (x ∈ l) := by
  obtain ⟨h1, h2, h3⟩ := bsP_spec ha x
  unfold bsF
  rw [Bool.eq_iff_iff, decide_eq_true_iff, decide_eq_true_iff]
  constructor
  · rintro ⟨a, b⟩
    rw [← b]
    have : l.getD (bsP l x) [] = l[bsP l x] := by simp [List.getD, a]
    rw [this]
    exact List.getElem_mem a
  · intro hm
    obtain ⟨j, hj, rfl⟩ := List.mem_iff_getElem.1 hm
    have hle : ¬ j < bsP l l[j] := fun hlt => by have := h2 j hj hlt; rw [ltS_irrefl] at this; cases this
    have hge : ¬ bsP l l[j] < j := fun hlt => by
      have a := h3 _ (by omega) (Nat.le_refl (bsP l l[j]))
      rw [asc_lt ha _ j hj hlt] at a
      cases a
    have e : bsP l l[j] = j := by omega
    rw [e]
    simp [List.getD, hj]
def sNames (x : Spc) : List (List UInt8) := x.sources.map (·.name)
def tNames (x : Spc) : List (List UInt8) := x.targets.map (·.name)
def checkSpace (x : Spc) : Int :=
  if 200 < x.sources.length + x.targets.length then 1
  else if ¬ (∀ s ∈ x.sources, nameOk s.name = true) ∨ ¬ (∀ s ∈ x.targets, nameOk s.name = true) then 2
  else if asc (sNames x) = false then 3
  else if asc (tNames x) = false then 4
  else if ¬ (∀ s ∈ x.sources, s.name ∉ tNames x) then 5
  else if ¬ (∀ s ∈ x.sources, s.text.length ≤ 2000) then 6
  else if ¬ (∀ t ∈ x.targets, validP t.action = true) then 7 else 0
theorem asc_bad {l : List (List UInt8)} {j : Nat} (h : j + 1 < l.length) (hb : ltS l[j] l[j + 1] = false) : asc l = false := by
  rw [Bool.eq_false_iff, Ne, asc_iff]
  intro hc
  rw [hc j h] at hb
  cases hb
def findI (l : List (List UInt8)) (n : List UInt8) : Int := if n ∈ l then (l.idxOf n : Int) else -1
theorem findI_hit {l : List (List UInt8)} {n : List UInt8} {i : Nat} (h : i < l.length) (he : l[i] = n) (hb : ∀ y ∈ l.take i, y ≠ n) : findI l n = i := by
  have hm : n ∈ l := he ▸ List.getElem_mem h
  have : l.idxOf n = i := by
    have e : l = l.take i ++ (n :: l.drop (i + 1)) := by
      rw [← he]; simp
    rw [e, List.idxOf_append, if_neg (fun hc => hb n hc rfl)]
    simp
    omega
  rw [findI, if_pos hm, this]
theorem findI_miss {l : List (List UInt8)} {n : List UInt8} (h : ∀ y ∈ l, y ≠ n) : findI l n = -1 := by
  rw [findI, if_neg (fun hm => h n hm rfl)]
theorem findI_neg (l : List (List UInt8)) (n : List UInt8) : (findI l n < 0) = (n ∉ l) := by
  unfold findI
  split
  · rename_i h; simp [h]
  · rename_i h; simp [h]
theorem findI_ge (l : List (List UInt8)) (n : List UInt8) : (0 ≤ findI l n) = (n ∈ l) := by
  unfold findI
  split
  · rename_i h; simp [h]
  · rename_i h; simp [h]
def wout (x : Spc) (n : List UInt8) : Spc := ⟨x.sources.filter fun s => decide (s.name ≠ n), x.targets.filter fun t => decide (t.name ≠ n)⟩
theorem checkSpace_ok {x : Spc} (h : checkSpace x = 0) : x.sources.length + x.targets.length ≤ 200 ∧ (∀ s ∈ x.sources, nameOk s.name = true) ∧ (∀ s ∈ x.targets, nameOk s.name = true) ∧ asc (sNames x) = true ∧ asc (tNames x) = true ∧
    (∀ s ∈ x.sources, s.name ∉ tNames x) ∧ (∀ s ∈ x.sources, s.text.length ≤ 2000) ∧ (∀ t ∈ x.targets, validP t.action = true) := by
  unfold checkSpace at h
  split at h
  · cases h
  rename_i h1
  split at h
  · cases h
  rename_i h2
  split at h
  · cases h
  rename_i h3
  split at h
  · cases h
  rename_i h4
  split at h
  · cases h
  rename_i h5
  split at h
  · cases h
  rename_i h6
  split at h
  · cases h
  rename_i h7
  refine ⟨by omega, ?_, ?_, by simpa using h3, by simpa using h4, by simpa using h5, by simpa using h6, by simpa using h7⟩
  · exact Classical.byContradiction fun hc => h2 (.inl hc)
  · exact Classical.byContradiction fun hc => h2 (.inr hc)
theorem validP_len {l : List Ins} (h : validP l = true) : 1 ≤ l.length ∧ l.length ≤ 200 := by
  simp only [validP, Bool.and_eq_true, decide_eq_true_eq] at h
  exact h.1
def drop (x : Spc) (n : List UInt8) : Spc × Int :=
  if checkSpace x ≠ 0 then (⟨[], []⟩, 1) else if nameOk n = false then (⟨[], []⟩, 2) else if ¬ (n ∈ sNames x ∨ n ∈ tNames x) then (⟨[], []⟩, 4) else (wout x n, 0)
theorem sumN_mul {α : Type} (m w : α → Nat) (c : Nat) (h : ∀ x, m x ≤ c * (w x + 1)) (l : List α) : sumN m l ≤ c * wL w l := by
  induction l with
  | nil => simp [sumN]
  | cons x l ih =>
    have hx := h x
    have e : wL w (x :: l) = w x + 1 + wL w l := by simp [wL]; omega
    rw [sumN_cons, e, Nat.mul_add]
    omega
theorem Ins.m_le (l : List Ins) : sumN Ins.m l ≤ 4 * wL Ins.w l := sumN_mul _ _ 4 (fun x => by simp only [Ins.m]; omega) l
theorem Sou.m_le (l : List Sou) : sumN Sou.m l ≤ 4 * wL Sou.w l := sumN_mul _ _ 4 (fun x => by simp only [Sou.m]; omega) l
theorem Lnk.m_le (l : List Lnk) : sumN Lnk.m l ≤ 4 * wL Lnk.w l := sumN_mul _ _ 4 (fun x => by simp only [Lnk.m]; omega) l
theorem Tgt.m_le (l : List Tgt) : sumN Tgt.m l ≤ 4 * wL Tgt.w l := sumN_mul _ _ 4 (fun x => by have := Ins.m_le x.action; simp only [Tgt.m, Tgt.w]; omega) l
theorem Deed.m_le (l : List Deed) : sumN Deed.m l ≤ 4 * wL Deed.w l := sumN_mul _ _ 4 (fun x => by have := Ins.m_le x.action; have := Lnk.m_le x.links; simp only [Deed.m, Deed.w]; omega) l
theorem Spc.m_le (x : Spc) : x.m ≤ 4 * x.w := by have := Sou.m_le x.sources; have := Tgt.m_le x.targets; simp only [Spc.m, Spc.w]; omega
theorem all_take {α : Type} {l : List α} {p : α → Prop} {i : Nat} (h : ∀ y ∈ l.take i, p y) (hi : i < l.length) (hp : p l[i]) : ∀ y ∈ l.take (i + 1), p y := by
  intro y hy
  rw [List.take_succ_eq_append_getElem hi, List.mem_append] at hy
  rcases hy with hy | hy
  · exact h y hy
  · simp at hy; rw [hy]; exact hp
theorem mem_take_s {α : Type} {l : List α} {i : Nat} {y : α} (h : y ∈ l.take i) : y ∈ l.take (i + 1) := (List.take_prefix_take_left (Nat.le_succ i)).subset h
theorem get_take_s {α : Type} {l : List α} {i : Nat} (h : i < l.length) : l[i] ∈ l.take (i + 1) := by
  rw [List.take_succ_eq_append_getElem h]
  exact List.mem_append_right _ (List.mem_singleton.2 rfl)
theorem all_end {α : Type} {l : List α} {p : α → Prop} {i : Nat} (h : ∀ y ∈ l.take i, p y) (hi : l.length ≤ i) : ∀ y ∈ l, p y := by
  rwa [List.take_of_length_le hi] at h
end Go.Am
namespace Go.Am
open Go
def decN (n : Nat) : List UInt8 := if h : n < 10 then [dig n] else decN (n / 10) ++ [dig n]
termination_by n
decreasing_by omega
theorem decN_small {n : Nat} (h : n < 10) : decN n = [dig n] := by rw [decN, dif_pos h]
theorem decN_big {n : Nat} (h : ¬ n < 10) : decN n = decN (n / 10) ++ [dig n] := by rw [decN, dif_neg h]
theorem decN_len (n : Nat) : (decN n).length ≤ n + 1 := by
  induction n using Nat.strongRecOn with
  | _ n ih =>
    by_cases h : n < 10
    · rw [decN_small h]; simp
    · rw [decN_big h]
      have := ih (n / 10) (by omega)
      simp only [List.length_append, List.length_singleton]
      omega
def gapB (b : UInt8) : Bool := decide (b = 32) || decide (b = 10)
def wordsL : List UInt8 → List UInt8 → List (List UInt8)
  | [], w => if w = [] then [] else [w]
  | b :: s, w => if gapB b then (if w = [] then wordsL s [] else w :: wordsL s []) else wordsL s (w ++ [b])
def wordAt (s : List UInt8) (n : Nat) : List UInt8 := (wordsL s []).getD n []
def flagT (b : Bool) : List UInt8 := if b then [49] else [48]
structure Mst where
  at_ : Nat
  stk : List (List UInt8)
  steps : Nat
  looks : Nat
deriving DecidableEq
inductive Out
  | go (m : Mst)
  | fin (code : Int) (text : List UInt8) (steps : Nat)
  | look (ask : Bool) (name : List UInt8) (m : Mst)
deriving DecidableEq
def needOf (op : Int) : Nat := if op = 1 ∨ op = 10 then 0 else if op = 2 ∨ op = 6 ∨ op = 8 then 2 else 1
def top1 (s : List (List UInt8)) : List UInt8 := s.getD (s.length - 1) []
def top2 (s : List (List UInt8)) : List UInt8 := s.getD (s.length - 2) []
def cut1 (s : List (List UInt8)) : List (List UInt8) := s.take (s.length - 1)
def cut2 (s : List (List UInt8)) : List (List UInt8) := s.take (s.length - 2)
def pushM (m : Mst) (s : List (List UInt8)) (t : List UInt8) : Out :=
  if 2000 < t.length ∨ 50 ≤ s.length then .fin 2 (decN m.at_) m.steps else .go ⟨m.at_ + 1, s ++ [t], m.steps, m.looks⟩
def falseT (t : List UInt8) : Bool := decide (t = []) || decide (t = [48])
def putOf (x : Ins) (s : List (List UInt8)) : Option (List (List UInt8) × List UInt8) :=
  if x.op = 1 then some (s, x.text)
  else if x.op = 2 then some (cut2 s, top2 s ++ top1 s)
  else if x.op = 3 then some (cut1 s, (top1 s).take x.n.toNat)
  else if x.op = 4 then some (cut1 s, (top1 s).drop x.n.toNat)
  else if x.op = 5 then some (cut1 s, wordAt (top1 s) x.n.toNat)
  else if x.op = 6 then some (cut2 s, flagT (decide (top1 s = top2 s)))
  else if x.op = 7 then some (s, top1 s)
  else if x.op = 8 then some (cut2 s ++ [top1 s], top2 s)
  else none
def lookM (x : Ins) (m : Mst) : Out :=
  if nameOk (top1 m.stk) = false then .fin 2 (decN m.at_) m.steps
  else if m.looks = 200 then .fin 3 [] m.steps
  else .look (decide (x.op = 12)) (top1 m.stk) ⟨m.at_, cut1 m.stk, m.steps, m.looks + 1⟩
def moveM (x : Ins) (m : Mst) : Out :=
  if x.op = 9 then .go ⟨m.at_ + 1, cut1 m.stk, m.steps, m.looks⟩
  else if x.op = 10 then .go ⟨x.n.toNat, m.stk, m.steps, m.looks⟩
  else if x.op = 11 then .go ⟨if falseT (top1 m.stk) then x.n.toNat else m.at_ + 1, cut1 m.stk, m.steps, m.looks⟩
  else if x.op = 12 ∨ x.op = 13 then lookM x m
  else if x.op = 14 then .fin 1 (top1 m.stk) m.steps
  else .fin 0 (top1 m.stk) m.steps
def doIns (x : Ins) (m : Mst) : Out :=
  if m.stk.length < needOf x.op then .fin 2 (decN m.at_) m.steps
  else match putOf x m.stk with
    | some p => pushM m p.1 p.2
    | none => moveM x m
def insAt (code : List Ins) (i : Nat) : Ins := code.getD i Ins.zero
def mstep (code : List Ins) (m : Mst) : Out :=
  if code.length ≤ m.at_ then .fin 2 (decN m.at_) m.steps
  else if m.steps = 2000 then .fin 3 [] m.steps
  else doIns (insAt code m.at_) { m with steps := m.steps + 1 }
structure Mok (m : Mst) : Prop where
  at_ : m.at_ ≤ 200 + m.steps
  len : m.stk.length ≤ 50
  txt : ∀ t ∈ m.stk, t.length ≤ 2000
  steps : m.steps ≤ 2000
  looks : m.looks ≤ 200
def runF (code : List Ins) : Nat → Mst → Out
  | 0, m => .fin 3 [] m.steps
  | f + 1, m => match mstep code m with
    | .go m' => runF code f m'
    | o => o
def run (code : List Ins) (m : Mst) : Out := runF code (2001 - m.steps) m
def answ (ask : Bool) (name : List UInt8) (m : Mst) (r : Rpl) : Out :=
  if ask then
    (if r.has = false then .fin 4 name m.steps else if r.code ≠ 0 then .fin 5 name m.steps else .go ⟨m.at_ + 1, m.stk ++ [r.text], m.steps, m.looks⟩)
  else .go ⟨m.at_ + 1, m.stk ++ [flagT r.has], m.steps, m.looks⟩
def runO (code : List Ins) : Out → Out
  | .go m => run code m
  | o => o
def resume (code : List Ins) (o : Out) (r : Rpl) : Out :=
  match o with
  | .look a n m => runO code (answ a n m r)
  | o => o
def start : Mst := ⟨0, [], 0, 0⟩
def nextO (code : List Ins) (rs : List Rpl) : Out := rs.foldl (resume code) (run code start)
def turnOf : Out → Trn
  | .go m => ⟨false, 0, [], false, [], m.steps⟩
  | .fin c t n => ⟨true, c, t, false, [], n⟩
  | .look a s m => ⟨false, 0, [], a, s, m.steps⟩
def replyOk (r : Rpl) : Bool := decide (r.text.length ≤ 2000) && decide (0 ≤ r.code) && decide (r.code ≤ 7)
def nextOk (code : List Ins) (rs : List Rpl) : Bool := validP code && decide (rs.length ≤ 200) && rs.all replyOk
def next (code : List Ins) (rs : List Rpl) : Trn := if nextOk code rs then turnOf (nextO code rs) else ⟨false, 9, [], false, [], 0⟩
theorem wordsL_len : ∀ (s w : List UInt8) (n : Nat), w.length + s.length ≤ n → ∀ t ∈ wordsL s w, t.length ≤ n
  | [], w, n, h, t, ht => by
    rw [wordsL] at ht
    split at ht
    · cases ht
    · simp at ht; subst ht; simpa using h
  | b :: s, w, n, h, t, ht => by
    simp only [List.length_cons] at h
    rw [wordsL] at ht
    split at ht
    · split at ht
      · exact wordsL_len s [] n (by simp; omega) t ht
      · rcases List.mem_cons.1 ht with rfl | ht
        · omega
        · exact wordsL_len s [] n (by simp; omega) t ht
    · exact wordsL_len s (w ++ [b]) n (by simp; omega) t ht
theorem wordAt_len (s : List UInt8) (n : Nat) : (wordAt s n).length ≤ s.length := by
  unfold wordAt
  rw [List.getD_eq_getElem?_getD]
  rcases Nat.lt_or_ge n (wordsL s []).length with h | h
  · rw [List.getElem?_eq_getElem h]
    exact wordsL_len s [] s.length (by simp) _ (List.getElem_mem h)
  · rw [List.getElem?_eq_none h]; simp
theorem top1_len {s : List (List UInt8)} (h : ∀ t ∈ s, t.length ≤ 2000) : (top1 s).length ≤ 2000 := by
  unfold top1
  rw [List.getD_eq_getElem?_getD]
  rcases Nat.lt_or_ge (s.length - 1) s.length with hl | hl
  · rw [List.getElem?_eq_getElem hl]; exact h _ (List.getElem_mem hl)
  · rw [List.getElem?_eq_none hl]; simp
theorem top2_len {s : List (List UInt8)} (h : ∀ t ∈ s, t.length ≤ 2000) : (top2 s).length ≤ 2000 := by
  unfold top2
  rw [List.getD_eq_getElem?_getD]
  rcases Nat.lt_or_ge (s.length - 2) s.length with hl | hl
  · rw [List.getElem?_eq_getElem hl]; exact h _ (List.getElem_mem hl)
  · rw [List.getElem?_eq_none hl]; simp
theorem cut1_len (s : List (List UInt8)) : (cut1 s).length = s.length - 1 := by simp [cut1]
theorem cut2_len (s : List (List UInt8)) : (cut2 s).length = s.length - 2 := by simp [cut2]
theorem cut1_mem {s : List (List UInt8)} {t : List UInt8} (h : t ∈ cut1 s) : t ∈ s := List.mem_of_mem_take h
theorem cut2_mem {s : List (List UInt8)} {t : List UInt8} (h : t ∈ cut2 s) : t ∈ s := List.mem_of_mem_take h
theorem pushM_ok {m : Mst} {s : List (List UInt8)} {t : List UInt8} {m' : Mst} (h : pushM m s t = .go m') (hk : Mok m) (hs : ∀ t ∈ s, t.length ≤ 2000) (ha : m.at_ < 200) : Mok m' ∧ m'.steps = m.steps ∧ m'.looks = m.looks := by
  unfold pushM at h
  split at h
  · cases h
  · rename_i hn
    injection h with h
    subst h
    exact ⟨⟨by dsimp only; omega, by simp; omega, fun u hu => by
      rcases List.mem_append.1 hu with hu | hu
      · exact hs u hu
      · simp at hu; subst hu; omega, hk.steps, hk.looks⟩, rfl, rfl⟩
theorem putOf_txt {x : Ins} {s : List (List UInt8)} {p : List (List UInt8) × List UInt8} (h : putOf x s = some p) (h1 : ∀ t ∈ s, t.length ≤ 2000) : ∀ t ∈ p.1, t.length ≤ 2000 := by
  unfold putOf at h
  repeat' split at h
  all_goals first
    | cases h; done
    | (injection h with h; subst h; exact h1)
    | (injection h with h; subst h; exact fun t ht => h1 t (cut1_mem ht))
    | (injection h with h; subst h; exact fun t ht => h1 t (cut2_mem ht))
    | skip
  injection h with h; subst h
  intro t ht
  rcases List.mem_append.1 ht with ht | ht
  · exact h1 t (cut2_mem ht)
  · simp at ht; subst ht; exact top1_len h1
theorem moveM_ok {x : Ins} {m m' : Mst} (hx : x.valid = true) (hk : Mok m) (ha : m.at_ < 200) (h : moveM x m = .go m') : Mok m' ∧ m'.steps = m.steps ∧ m'.looks = m.looks := by
  have h1 := hk.txt
  have hn : x.op = 10 ∨ x.op = 11 → x.n.toNat ≤ 200 := by
    intro ho
    simp only [Ins.valid, Bool.and_eq_true, decide_eq_true_eq] at hx
    obtain ⟨⟨_, h5⟩, h6⟩ := hx
    unfold topN at h6
    rw [if_neg (by omega), if_pos (by omega)] at h6
    omega
  unfold moveM lookM at h
  repeat' split at h
  all_goals first
    | cases h; done
    | skip
  · injection h with h; subst h
    exact ⟨⟨by dsimp only; omega, by simp only [cut1_len]; have := hk.len; omega, fun t ht => h1 t (cut1_mem ht), hk.steps, hk.looks⟩, rfl, rfl⟩
  · injection h with h; subst h
    exact ⟨⟨by dsimp only; have := hn (by omega); omega, hk.len, h1, hk.steps, hk.looks⟩, rfl, rfl⟩
  · injection h with h; subst h
    exact ⟨⟨by dsimp only; have := hn (by omega); omega, by simp only [cut1_len]; have := hk.len; omega, fun t ht => h1 t (cut1_mem ht), hk.steps, hk.looks⟩, rfl, rfl⟩
  · injection h with h; subst h
    exact ⟨⟨by dsimp only; omega, by simp only [cut1_len]; have := hk.len; omega, fun t ht => h1 t (cut1_mem ht), hk.steps, hk.looks⟩, rfl, rfl⟩
theorem doIns_ok {x : Ins} {m m' : Mst} (hx : x.valid = true) (hk : Mok m) (ha : m.at_ < 200) (h : doIns x m = .go m') : Mok m' ∧ m'.steps = m.steps ∧ m'.looks = m.looks := by
  unfold doIns at h
  split at h
  · cases h
  · split at h
    · rename_i p hp
      exact pushM_ok h hk (putOf_txt hp hk.txt) ha
    · exact moveM_ok hx hk ha h
theorem pushM_st {m m' : Mst} {s : List (List UInt8)} {t : List UInt8} (h : pushM m s t = .go m') : m'.steps = m.steps ∧ m'.looks = m.looks := by
  unfold pushM at h
  split at h
  · cases h
  · injection h with h; subst h; exact ⟨rfl, rfl⟩
theorem pushM_nl {m m' : Mst} {s : List (List UInt8)} {t n : List UInt8} {a : Bool} : pushM m s t ≠ .look a n m' := by
  unfold pushM
  split <;> simp
theorem doIns_go {x : Ins} {m m' : Mst} (h : doIns x m = .go m') : m'.steps = m.steps ∧ m'.looks = m.looks := by
  unfold doIns at h
  split at h
  · cases h
  · split at h
    · exact pushM_st h
    · unfold moveM lookM at h
      repeat' split at h
      all_goals first
        | cases h; done
        | (injection h with h; subst h; exact ⟨rfl, rfl⟩)
theorem doIns_look {x : Ins} {m m' : Mst} {a : Bool} {n : List UInt8} (h : doIns x m = .look a n m') : m' = ⟨m.at_, cut1 m.stk, m.steps, m.looks + 1⟩ ∧ n = top1 m.stk ∧ a = decide (x.op = 12) ∧ m.looks ≠ 200 ∧ nameOk n = true ∧ 1 ≤ m.stk.length := by
  unfold doIns at h
  split at h
  · cases h
  · rename_i h0
    split at h
    · exact absurd h pushM_nl
    · unfold moveM at h
      repeat' split at h
      all_goals first
        | cases h; done
        | skip
      rename_i ho
      unfold lookM at h
      repeat' split at h
      all_goals first
        | cases h; done
        | skip
      rename_i h14 h15
      injection h with e1 e2 e3
      subst e1; subst e2; subst e3
      have hn : needOf x.op = 1 := by
        unfold needOf
        rw [if_neg (by omega), if_neg (by omega)]
      exact ⟨rfl, rfl, rfl, h15, by simpa using h14, by omega⟩
theorem mstep_go {code : List Ins} {m m' : Mst} (h : mstep code m = .go m') : m'.steps = m.steps + 1 ∧ m'.looks = m.looks ∧ m.steps ≠ 2000 ∧ m.at_ < code.length := by
  unfold mstep at h
  repeat' split at h
  · cases h
  · cases h
  · have := doIns_go h
    exact ⟨this.1, this.2, by assumption, by omega⟩
theorem mstep_look {code : List Ins} {m m' : Mst} {a : Bool} {n : List UInt8} (h : mstep code m = .look a n m') : m' = ⟨m.at_, cut1 m.stk, m.steps + 1, m.looks + 1⟩ ∧ n = top1 m.stk ∧ m.looks ≠ 200 ∧ nameOk n = true ∧ 1 ≤ m.stk.length ∧ m.steps ≠ 2000 ∧ m.at_ < code.length := by
  unfold mstep at h
  repeat' split at h
  · cases h
  · cases h
  · obtain ⟨a1, a2, a3, a4, a5, a6⟩ := doIns_look h
    exact ⟨a1, a2, a4, a5, a6, by assumption, by omega⟩
theorem insAt_mem {code : List Ins} {i : Nat} (h : i < code.length) : insAt code i ∈ code := by
  unfold insAt
  rw [List.getD_eq_getElem?_getD, List.getElem?_eq_getElem h]
  exact List.getElem_mem h
theorem insAt_lt {code : List Ins} {i : Nat} (h : i < code.length) : insAt code i = code[i] := by simp [insAt, List.getD, h]
theorem validP_all {code : List Ins} (hc : validP code = true) {x : Ins} (hx : x ∈ code) : x.valid = true := by
  simp only [validP, Bool.and_eq_true] at hc
  exact List.all_eq_true.1 hc.2 x hx
theorem mstep_ok {code : List Ins} {m m' : Mst} (hc : validP code = true) (hk : Mok m) (h : mstep code m = .go m') : Mok m' := by
  have h0 := mstep_go h
  have hl := validP_len hc
  unfold mstep at h
  rw [if_neg (by omega), if_neg h0.2.2.1] at h
  have hk1 : Mok { m with steps := m.steps + 1 } := ⟨by have := hk.at_; dsimp only; omega, hk.len, hk.txt, by have := hk.steps; have := h0.2.2.1; dsimp only; omega, hk.looks⟩
  exact (doIns_ok (validP_all hc (insAt_mem h0.2.2.2)) hk1 (by dsimp only; omega) h).1
theorem look_ok {code : List Ins} {m m' : Mst} {a : Bool} {n : List UInt8} (hk : Mok m) (h : mstep code m = .look a n m') : Mok m' ∧ m'.stk.length ≤ 49 ∧ 1 ≤ m'.looks := by
  obtain ⟨rfl, _, h2, _, h3, h4, h5⟩ := mstep_look h
  have := hk.len
  have := hk.at_
  have := hk.steps
  have := hk.looks
  refine ⟨⟨?_, ?_, fun t ht => hk.txt t (cut1_mem ht), ?_, ?_⟩, ?_, ?_⟩ <;> first | (dsimp only; omega) | (simp only [cut1_len]; omega)
theorem answ_go {a : Bool} {n : List UInt8} {m m' : Mst} {r : Rpl} (h : answ a n m r = .go m') : m'.steps = m.steps ∧ m'.looks = m.looks := by
  unfold answ at h
  repeat' split at h
  all_goals first
    | cases h; done
    | (injection h with h; subst h; exact ⟨rfl, rfl⟩)
theorem answ_nl {a b : Bool} {n n' : List UInt8} {m m' : Mst} {r : Rpl} : answ a n m r ≠ .look b n' m' := by
  unfold answ
  repeat' split
  all_goals simp
theorem answ_ok {a : Bool} {n : List UInt8} {m m' : Mst} {r : Rpl} (hk : Mok m) (hl : m.stk.length ≤ 49) (ha : m.at_ < 200) (hr : replyOk r = true) (h : answ a n m r = .go m') : Mok m' := by
  have hr' : r.text.length ≤ 2000 := by
    simp only [replyOk, Bool.and_eq_true, decide_eq_true_eq] at hr
    exact hr.1.1
  unfold answ at h
  repeat' split at h
  all_goals first
    | cases h; done
    | skip
  · injection h with h; subst h
    refine ⟨by dsimp only; omega, by simp; omega, fun t ht => ?_, hk.steps, hk.looks⟩
    rcases List.mem_append.1 ht with ht | ht
    · exact hk.txt t ht
    · simp at ht; subst ht; exact hr'
  · injection h with h; subst h
    refine ⟨by dsimp only; omega, by simp; omega, fun t ht => ?_, hk.steps, hk.looks⟩
    rcases List.mem_append.1 ht with ht | ht
    · exact hk.txt t ht
    · simp at ht; subst ht; unfold flagT; split <;> simp
theorem start_ok : Mok start := ⟨by simp [start], by simp [start], by simp [start], by simp [start], by simp [start]⟩
theorem run_eq (code : List Ins) {m : Mst} (h : m.steps ≤ 2000) : run code m = match mstep code m with
    | .go m' => run code m'
    | o => o := by
  unfold run
  obtain ⟨k, hk⟩ : ∃ k, 2001 - m.steps = k + 1 := ⟨2000 - m.steps, by omega⟩
  rw [hk, runF]
  cases hs : mstep code m with
  | go m' =>
    have := mstep_go hs
    dsimp only
    rw [show 2001 - m'.steps = k by omega]
  | fin c t n => rfl
  | look a n m' => rfl
theorem run_ng (code : List Ins) : ∀ (k : Nat) (m m' : Mst), 2001 - m.steps = k → m.steps ≤ 2000 → run code m ≠ .go m'
  | k, m, m', hk, hm => by
    rw [run_eq code hm]
    cases hs : mstep code m with
    | go m2 =>
      have := mstep_go hs
      exact run_ng code (2001 - m2.steps) m2 m' rfl (by omega)
    | fin c t n => simp
    | look a n m2 => simp
termination_by k => k
decreasing_by omega
def specF (code : List Ins) (rs : List Rpl) : Nat → Mst → Out
  | 0, m => .fin 3 [] m.steps
  | f + 1, m => match mstep code m with
    | .go m' => specF code rs f m'
    | .fin c t n => .fin c t n
    | .look a n m' => match rs[m.looks]? with
      | none => .look a n m'
      | some y => match answ a n m' y with
        | .go m2 => specF code rs f m2
        | o => o
theorem foldl_fin (code : List Ins) (c : Int) (t : List UInt8) (n : Nat) : ∀ rs : List Rpl, rs.foldl (resume code) (.fin c t n) = .fin c t n
  | [] => rfl
  | r :: rs => by rw [List.foldl_cons]; exact foldl_fin code c t n rs
theorem specF_eq (code : List Ins) (rs : List Rpl) : ∀ (f : Nat) (m : Mst), m.steps ≤ 2000 → 2001 - m.steps ≤ f → specF code rs f m = (rs.drop m.looks).foldl (resume code) (run code m)
  | 0, m, h1, h2 => by omega
  | f + 1, m, h1, h2 => by
    rw [specF, run_eq code h1]
    cases hs : mstep code m with
    | go m' =>
      have := mstep_go hs
      dsimp only
      rw [specF_eq code rs f m' (by omega) (by omega), this.2.1]
    | fin c t n =>
      dsimp only
      rw [foldl_fin]
    | look a n m' =>
      have hm := mstep_look hs
      dsimp only
      rcases Nat.lt_or_ge m.looks rs.length with hl | hl
      · rw [List.getElem?_eq_getElem hl, List.drop_eq_getElem_cons hl, List.foldl_cons]
        dsimp only [resume]
        cases ha : answ a n m' rs[m.looks] with
        | go m2 =>
          have := answ_go ha
          have e1 : m'.steps = m.steps + 1 := by rw [hm.1]
          have e2 : m'.looks = m.looks + 1 := by rw [hm.1]
          dsimp only [runO]
          rw [specF_eq code rs f m2 (by omega) (by omega), this.2, e2]
        | fin c t n' =>
          dsimp only [runO]
          rw [foldl_fin]
        | look a2 n2 m2 => exact absurd ha answ_nl
      · rw [List.getElem?_eq_none hl, List.drop_of_length_le hl]
        rfl
end Go.Am

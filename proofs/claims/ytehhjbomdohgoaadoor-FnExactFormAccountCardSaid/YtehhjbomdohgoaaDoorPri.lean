/- Texts of instructions, as lists of bytes. No condition. -/
import Derived.Test.YtehhjbomdohgoaaDoorMch
namespace Go.Am
open Go
set_option linter.unusedSimpArgs false
set_option linter.unusedVariables false

def hexD (n : Nat) : UInt8 := UInt8.ofNat (if n < 10 then 48 + n else 87 + n)
def plainB (b : UInt8) : Bool := decide (32 ≤ b.toNat) && decide (b.toNat ≤ 126) && !decide (b.toNat = 34) && !decide (b.toNat = 92)
/-- A byte as it stands in quotes. -/
def qByte (b : UInt8) : List UInt8 := if plainB b then [b] else [92, hexD (b.toNat / 16), hexD (b.toNat % 16)]
def qBody (s : List UInt8) : List UInt8 := s.flatMap qByte
def quoteL (s : List UInt8) : List UInt8 := 34 :: (qBody s ++ [34])
theorem qByte_len (b : UInt8) : 1 ≤ (qByte b).length ∧ (qByte b).length ≤ 3 := by unfold qByte; split <;> simp
theorem qBody_len (s : List UInt8) : s.length ≤ (qBody s).length ∧ (qBody s).length ≤ 3 * s.length := by
  induction s with
  | nil => simp [qBody]
  | cons b s ih =>
    have := qByte_len b
    simp only [qBody, List.flatMap_cons, List.length_append, List.length_cons] at ih ⊢
    omega
theorem qBody_s {s : List UInt8} {i : Nat} (h : i < s.length) : qBody (s.take (i + 1)) = qBody (s.take i) ++ qByte s[i] := by
  unfold qBody
  rw [List.take_succ_eq_append_getElem h, List.flatMap_append]
  simp
theorem qBody_take (s : List UInt8) (i : Nat) : (qBody (s.take i)).length ≤ 3 * s.length := by
  have := (qBody_len (s.take i)).2
  simp only [List.length_take] at this
  omega
theorem quoteL_len (s : List UInt8) : (quoteL s).length ≤ 3 * s.length + 2 := by
  have := qBody_len s
  simp [quoteL]
  omega
/-- The words of instructions. -/
def wordsT : List (List UInt8) := [[], [108, 105, 116], [99, 97, 116], [99, 117, 116], [114, 101, 115, 116], [119, 111, 114, 100], [115, 97, 109, 101], [100, 117, 112], [115, 119, 97, 112], [100, 114, 111, 112], [106, 117, 109, 112], [117, 110, 108, 101, 115, 115], [97, 115, 107], [104, 97, 115], [102, 97, 105, 108], [101, 110, 100]]
/-- The line of an instruction. -/
def lineL (x : Ins) : List UInt8 :=
  if (wordOf x.op).2 = 1 then (wordOf x.op).1 ++ 32 :: quoteL x.text
  else if 1 < (wordOf x.op).2 then (wordOf x.op).1 ++ 32 :: decN x.n.toNat
  else (wordOf x.op).1
def printL (p : List Ins) : List UInt8 := p.flatMap fun x => lineL x ++ [10]
def printP (p : List Ins) : List UInt8 := if validP p then printL p else []
theorem printL_s {p : List Ins} {i : Nat} (h : i < p.length) : printL (p.take (i + 1)) = printL (p.take i) ++ (lineL p[i] ++ [10]) := by
  unfold printL
  rw [List.take_succ_eq_append_getElem h, List.flatMap_append]
  simp
theorem ite_len {c : Prop} [Decidable c] {a b : List UInt8 × Int} (ha : a.1.length ≤ 6) (hb : b.1.length ≤ 6) : (if c then a else b).1.length ≤ 6 := by
  by_cases h : c
  · rw [if_pos h]; exact ha
  · rw [if_neg h]; exact hb
theorem wordOf_len (op : Int) : (wordOf op).1.length ≤ 6 := by
  unfold wordOf
  repeat refine ite_len (by decide) ?_
  decide
theorem lineL_len {x : Ins} (h : x.valid = true) : (lineL x).length ≤ 6010 := by
  have h1 := wordOf_len x.op
  have h2 : x.text.length ≤ 2000 ∧ x.n.toNat ≤ 2000 := by
    simp only [Ins.valid, Bool.and_eq_true, decide_eq_true_eq] at h
    obtain ⟨⟨⟨⟨⟨_, _⟩, h3⟩, _⟩, _⟩, h6⟩ := h
    refine ⟨h3, ?_⟩
    unfold topN at h6
    repeat' split at h6
    all_goals omega
  have h3 := quoteL_len x.text
  have h4 := decN_len x.n.toNat
  unfold lineL
  split
  · simp only [List.length_append, List.length_cons]; omega
  · split
    · simp only [List.length_append, List.length_cons]; omega
    · omega
theorem printL_len : ∀ {p : List Ins}, (∀ x ∈ p, x.valid = true) → (printL p).length ≤ 6011 * p.length
  | [], _ => by simp [printL]
  | x :: p, h => by
    have h1 := lineL_len (h x (by simp))
    have h2 := printL_len (p := p) fun y hy => h y (by simp [hy])
    unfold printL at h2 ⊢
    rw [List.flatMap_cons]
    simp only [List.length_append, List.length_cons, List.length_nil] at h2 ⊢
    omega
theorem mem_take {α : Type} {l : List α} {i : Nat} {x : α} (h : x ∈ l.take i) : x ∈ l := List.mem_of_mem_take h
theorem words_get {op : Int} (h1 : 1 ≤ op) (h2 : op ≤ 15) : wordsT.getD op.toNat [] = (wordOf op).1 := by
  have : op = 1 ∨ op = 2 ∨ op = 3 ∨ op = 4 ∨ op = 5 ∨ op = 6 ∨ op = 7 ∨ op = 8 ∨ op = 9 ∨ op = 10 ∨ op = 11 ∨ op = 12 ∨ op = 13 ∨ op = 14 ∨ op = 15 := by omega
  rcases this with rfl | rfl | rfl | rfl | rfl | rfl | rfl | rfl | rfl | rfl | rfl | rfl | rfl | rfl | rfl <;> rfl
theorem kind_top {op : Int} (h1 : 1 ≤ op) (h2 : op ≤ 15) : (1 < (wordOf op).2 ↔ 0 ≤ topN op) ∧ ((wordOf op).2 = 1 ↔ op = 1) := by
  have : op = 1 ∨ op = 2 ∨ op = 3 ∨ op = 4 ∨ op = 5 ∨ op = 6 ∨ op = 7 ∨ op = 8 ∨ op = 9 ∨ op = 10 ∨ op = 11 ∨ op = 12 ∨ op = 13 ∨ op = 14 ∨ op = 15 := by omega
  rcases this with rfl | rfl | rfl | rfl | rfl | rfl | rfl | rfl | rfl | rfl | rfl | rfl | rfl | rfl | rfl <;> decide
end Go.Am

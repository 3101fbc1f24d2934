/- The program's data as lists and records, and how they lie in memory. No condition. -/
import Derived.Test.YtehhjbomdohgoaaDoorAm26
import Derived.Laws.BitsLemmas
namespace Go.Am
open Go
set_option linter.unusedVariables false

def i64 (n : Int) : Prop := -9223372036854775808 ≤ n ∧ n < 9223372036854775808
def okS (l : List UInt8) : Prop := l.length ≤ 140737488355328
/-- A string's value. -/
abbrev str (l : List UInt8) : Value := .string ⟨⟨l⟩⟩
abbrev int (n : Int) : Value := .int .i64 n

structure Ins where
  op : Int
  text : List UInt8
  n : Int
deriving DecidableEq

def Ins.c (x : Ins) : List Value := [.int .i64 x.op, .string ⟨⟨x.text⟩⟩, .int .i64 x.n]
def Ins.ok (x : Ins) : Prop := i64 x.op ∧ okS x.text ∧ i64 x.n
abbrev InsR : RepT Ins := flatR Ins.c Ins.ok
instance : Rp InsR 3 := .flat (fun _ => rfl) (fun _ => rfl)
def Ins.zero : Ins := ⟨0, [], 0⟩
theorem Ins.zero_ok : Ins.zero.ok := ⟨⟨by decide, by decide⟩, by simp [okS, Ins.zero], ⟨by decide, by decide⟩⟩
/-- A program's slice. -/
abbrev CodeR (own : Bool) : RepT (List Ins) := SlR own 3 InsR

def topN (op : Int) : Int := if op = 3 ∨ op = 4 ∨ op = 5 then 2000 else if op = 10 ∨ op = 11 then 200 else -1
def Ins.valid (x : Ins) : Bool :=
  decide (1 ≤ x.op) && decide (x.op ≤ 15) && decide (x.text.length ≤ 2000) && (decide (x.op = 1) || x.text.isEmpty) && decide (0 ≤ x.n) && decide (x.n ≤ max 0 (topN x.op))
def wordOf (op : Int) : List UInt8 × Int :=
  if op = 1 then ([108, 105, 116], 1) else
  if op = 2 then ([99, 97, 116], 0) else
  if op = 3 then ([99, 117, 116], 2) else
  if op = 4 then ([114, 101, 115, 116], 2) else
  if op = 5 then ([119, 111, 114, 100], 2) else
  if op = 6 then ([115, 97, 109, 101], 0) else
  if op = 7 then ([100, 117, 112], 0) else
  if op = 8 then ([115, 119, 97, 112], 0) else
  if op = 9 then ([100, 114, 111, 112], 0) else
  if op = 10 then ([106, 117, 109, 112], 3) else
  if op = 11 then ([117, 110, 108, 101, 115, 115], 3) else
  if op = 12 then ([97, 115, 107], 0) else
  if op = 13 then ([104, 97, 115], 0) else
  if op = 14 then ([102, 97, 105, 108], 0) else
  if op = 15 then ([101, 110, 100], 0) else ([], 0)
def validP (p : List Ins) : Bool := decide (1 ≤ p.length) && decide (p.length ≤ 200) && p.all Ins.valid

/-! ### The laws' weights -/
/-- What is left of `left` behind a weight, -1 if it does not last. -/
def szR (left : Int) (w : Nat) : Int := if left < w then -1 else left - w
theorem szR_lt {left : Int} {w : Nat} (h : 0 ≤ left) : szR left w < 0 ↔ left < w := by unfold szR; split <;> omega
theorem szR_ge {left : Int} {w : Nat} (h : (w : Int) ≤ left) : szR left w = left - w := by unfold szR; rw [if_neg (by omega)]
theorem szR_neg {left : Int} {w : Nat} (h : left < w) : szR left w = -1 := by unfold szR; rw [if_pos h]
def Ins.w (x : Ins) : Nat := x.text.length
def wL {α : Type} (w : α → Nat) (l : List α) : Nat := l.length + (l.map w).sum
/-- The weight of the first i. -/
def wS {α : Type} (w : α → Nat) (l : List α) (i : Nat) : Nat := ((l.take i).map w).sum
theorem wS_z {α : Type} (w : α → Nat) (l : List α) : wS w l 0 = 0 := by simp [wS]
theorem wS_s {α : Type} (w : α → Nat) (l : List α) (i : Nat) (h : i < l.length) : wS w l (i + 1) = wS w l i + w l[i] := by
  unfold wS
  rw [List.take_succ_eq_append_getElem h, List.map_append, List.sum_append]
  simp
theorem wS_le {α : Type} (w : α → Nat) (l : List α) (i : Nat) : l.length + wS w l i ≤ wL w l := by
  unfold wS wL
  have : (l.map w).sum = ((l.take i).map w).sum + ((l.drop i).map w).sum := by
    rw [← List.sum_append, ← List.map_append, List.take_append_drop]
  omega
theorem wS_all {α : Type} (w : α → Nat) (l : List α) (i : Nat) (h : l.length ≤ i) : l.length + wS w l i = wL w l := by
  unfold wS wL
  rw [List.take_of_length_le h]
attribute [simp] wS_z


/-! ### Answers -/
structure Res where
  code : Int
  text : List UInt8
  chain : List (List UInt8)
deriving DecidableEq
/-- A list of strings. -/
abbrev strR : RepT (List UInt8) := flatR (fun s => [str s]) okS
instance : Rp strR 1 := .flat (fun _ => rfl) (fun _ => rfl)
abbrev StrsR (own : Bool) : RepT (List (List UInt8)) := SlR own 1 strR
def ResR (own : Bool) : RepT Res := fun H x c F => ∃ s, c = [.int .i64 x.code, .string ⟨⟨x.text⟩⟩, s] ∧ StrsR own H x.chain [s] F
theorem ResR.ext {own : Bool} {H H' : Heap} {x : Res} {c : List Value} {F : List Nat} (h : ResR own H x c F) (he : Ext H H') : ResR own H' x c F := by
  obtain ⟨s, rfl, h⟩ := h
  exact ⟨s, rfl, Rp.ext h he⟩
/-- A result that was read. -/
def ResOkR (own : Bool) : RepT Res := fun H x c F => ResR own H x c F ∧ okS x.text
instance {own : Bool} : Rp (ResR own) 3 where
  fr := by
    rintro H H' x c F ⟨s, rfl, h⟩ hf
    exact ⟨s, rfl, Rp.fr h hf⟩
  lt := by
    rintro H x c F ⟨s, rfl, h⟩
    exact Rp.lt h
  one := by
    rintro H x c F ⟨s, rfl, h⟩
    have := Rp.one h
    simp [ones, Value.oneCell'] at this ⊢
    exact this
  len := by
    rintro H x c F ⟨s, rfl, h⟩
    rfl
instance {own : Bool} : Rp (ResOkR own) 3 where
  fr h hf := ⟨Rp.fr h.1 hf, h.2⟩
  lt h := Rp.lt h.1
  one h := Rp.one h.1
  len h := Rp.len h.1
/-- Without a chain. -/
def Res.c (x : Res) : List Value := [.int .i64 x.code, .string ⟨⟨x.text⟩⟩, .slice none 0 0]
theorem Res.of {x : Res} {H : Heap} {own : Bool} (h : x.chain = []) : ResR own H x x.c [] := ⟨_, rfl, by rw [h]; exact SlR.nil⟩
def readOk : List UInt8 → Bool
  | a :: b :: t => decide (48 ≤ a.toNat) && decide (a.toNat ≤ 53) && decide (b.toNat = 58) && decide (t.length ≤ 2000)
  | _ => false
def readRes (l : List UInt8) : Res := if readOk l then match l with
  | a :: _ :: t => ⟨a.toNat - 48, t, []⟩
  | _ => ⟨0, [], []⟩ else ⟨0, [], []⟩
theorem readRes_chain (l : List UInt8) : (readRes l).chain = [] := by
  unfold readRes
  repeat' split
  all_goals rfl
theorem wrap_u8 {n : Int} (h1 : 0 ≤ n) (h2 : n < 256) : IntKind.u8.wrap n = n := by
  rw [IntKind.wrap_u8]; omega

/-! ### Marks -/
/-- The last digit. -/
def dig (k : Nat) : UInt8 := UInt8.ofNat (48 + k % 10)
def mDig (k : Nat) (o : List UInt8) : List UInt8 := if h : k = 0 then o else mDig (k / 10) (dig k :: o)
termination_by k
decreasing_by omega
theorem mDig_z (o : List UInt8) : mDig 0 o = o := by rw [mDig]; simp
theorem mDig_s {k : Nat} (h : k ≠ 0) (o : List UInt8) : mDig k o = mDig (k / 10) (dig k :: o) := by rw [mDig]; simp [h]
theorem mDig_len : ∀ (k : Nat) (o : List UInt8), (mDig k o).length ≤ k + o.length := by
  intro k
  induction k using Nat.strongRecOn with
  | _ k ih =>
    intro o
    by_cases h : k = 0
    · subst h; rw [mDig_z]; omega
    · rw [mDig_s h]
      have := ih (k / 10) (by omega) (dig k :: o)
      simp only [List.length_cons] at this
      omega
/-- The mark of number k. -/
def mText (k : Nat) : List UInt8 := if k = 0 then [109, 48] else 109 :: mDig k []
/-- The marks from number k on. -/
def mList (k : Nat) : Nat → List (List UInt8)
  | 0 => []
  | n + 1 => mText k :: mList (k + 1) n

theorem mList_length (k n : Nat) : (mList k n).length = n := by
  induction n generalizing k with
  | zero => rfl
  | succ n ih => simp [mList, ih]
theorem mList_app (k n m : Nat) : mList k (n + m) = mList k n ++ mList (k + n) m := by
  induction n generalizing k with
  | zero => simp [mList]
  | succ n ih => rw [show n + 1 + m = (n + m) + 1 by omega]; simp [mList, ih, Nat.add_assoc, Nat.add_comm 1 n]
theorem mList_one (k : Nat) : mList k 1 = [mText k] := rfl
/-- The first i marked. -/
def mPart (l : List (List UInt8)) (k i : Nat) : List (List UInt8) := mList k i ++ l.drop i
theorem mPart_z (l : List (List UInt8)) (k : Nat) : mPart l k 0 = l := by simp [mPart, mList]
theorem mPart_length (l : List (List UInt8)) (k i : Nat) (h : i ≤ l.length) : (mPart l k i).length = l.length := by simp [mPart, mList_length]; omega
theorem mPart_s (l : List (List UInt8)) (k i : Nat) (h : i < l.length) : (mPart l k i).set i (mText (k + i)) = mPart l k (i + 1) := by
  unfold mPart
  rw [List.set_append_right _ _ (by rw [mList_length]; exact Nat.le_refl _), mList_length, Nat.sub_self, mList_app, mList_one, List.append_assoc, List.drop_eq_getElem_cons h]
  rfl
theorem mPart_all (l : List (List UInt8)) (k i : Nat) (h : l.length ≤ i) (hi : i ≤ l.length) : mPart l k i = mList k l.length := by
  obtain rfl : i = l.length := by omega
  simp [mPart]
theorem mList_get (k n i : Nat) (h : i < n) : (mList k n)[i]'(by rw [mList_length]; exact h) = mText (k + i) := by
  induction n generalizing k i with
  | zero => omega
  | succ n ih =>
    cases i with
    | zero => rfl
    | succ i =>
      simp only [mList, List.getElem_cons_succ]
      rw [ih (k + 1) i (by omega)]
      congr 1
      omega

theorem mText_ok {k : Nat} (h : k ≤ 1000000000) : okS (mText k) := by
  unfold mText okS
  split
  · simp
  · have := mDig_len k []
    simp at this ⊢
    omega

/-- A result as a line. -/
def formOk (x : Res) : Bool := decide (0 ≤ x.code) && decide (x.code ≤ 5) && decide (x.text.length ≤ 2000) && decide (x.chain.length = 0)
def formRes (x : Res) : List UInt8 := if formOk x then dig x.code.toNat :: 58 :: x.text else []

abbrev byteR : RepT UInt8 := flatR (fun b => [.int .u8 (b.toNat : Int)]) fun _ => True
instance : Rp byteR 1 := .flat (fun _ => rfl) (fun _ => rfl)
abbrev BytesR (own : Bool) : RepT (List UInt8) := SlR own 1 byteR

end Go.Am

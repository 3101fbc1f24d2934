/- The program's data as lists and records, and how they lie in memory. No condition. -/
import Derived.Test.YtbigpkfdeaigeaaDoorAm26
import Derived.Laws.BitsLemmas
namespace Go.Am
open Go
set_option linter.unusedVariables false

def i64 (n : Int) : Prop := -9223372036854775808 ≤ n ∧ n < 9223372036854775808
def okS (l : List UInt8) : Prop := l.length ≤ 140737488355328
/-- A string's value. -/
abbrev str (l : List UInt8) : Value := .string ⟨⟨l⟩⟩
abbrev int (n : Int) : Value := .int .i64 n

structure Ins where
  op : Int
  text : List UInt8
  n : Int
deriving DecidableEq

def Ins.c (x : Ins) : List Value := [.int .i64 x.op, .string ⟨⟨x.text⟩⟩, .int .i64 x.n]
def Ins.ok (x : Ins) : Prop := i64 x.op ∧ okS x.text ∧ i64 x.n
abbrev InsR : RepT Ins := flatR Ins.c Ins.ok
instance : Rp InsR 3 := .flat (fun _ => rfl) (fun _ => rfl)
def Ins.zero : Ins := ⟨0, [], 0⟩
/-- A program's slice. -/
abbrev CodeR (own : Bool) : RepT (List Ins) := SlR own 3 InsR

def topN (op : Int) : Int := if op = 3 ∨ op = 4 ∨ op = 5 then 2000 else if op = 10 ∨ op = 11 then 200 else -1
def Ins.valid (x : Ins) : Bool :=
  decide (1 ≤ x.op) && decide (x.op ≤ 15) && decide (x.text.length ≤ 2000) && (decide (x.op = 1) || x.text.isEmpty) && decide (0 ≤ x.n) && decide (x.n ≤ max 0 (topN x.op))
def wordOf (op : Int) : List UInt8 × Int :=
  if op = 1 then ([108, 105, 116], 1) else
  if op = 2 then ([99, 97, 116], 0) else
  if op = 3 then ([99, 117, 116], 2) else
  if op = 4 then ([114, 101, 115, 116], 2) else
  if op = 5 then ([119, 111, 114, 100], 2) else
  if op = 6 then ([115, 97, 109, 101], 0) else
  if op = 7 then ([100, 117, 112], 0) else
  if op = 8 then ([115, 119, 97, 112], 0) else
  if op = 9 then ([100, 114, 111, 112], 0) else
  if op = 10 then ([106, 117, 109, 112], 3) else
  if op = 11 then ([117, 110, 108, 101, 115, 115], 3) else
  if op = 12 then ([97, 115, 107], 0) else
  if op = 13 then ([104, 97, 115], 0) else
  if op = 14 then ([102, 97, 105, 108], 0) else
  if op = 15 then ([101, 110, 100], 0) else ([], 0)
def validP (p : List Ins) : Bool := decide (1 ≤ p.length) && decide (p.length ≤ 200) && p.all Ins.valid

/-! ### The laws' weights -/
def Ins.w (x : Ins) : Nat := x.text.length
def wL {α : Type} (w : α → Nat) (l : List α) : Nat := l.length + (l.map w).sum
/-- The weight of the first i. -/
def wS {α : Type} (w : α → Nat) (l : List α) (i : Nat) : Nat := ((l.take i).map w).sum
theorem wS_z {α : Type} (w : α → Nat) (l : List α) : wS w l 0 = 0 := by simp [wS]
attribute [simp] wS_z


/-! ### Answers -/
structure Res where
  code : Int
  text : List UInt8
  chain : List (List UInt8)
deriving DecidableEq
/-- A list of strings. -/
abbrev strR : RepT (List UInt8) := flatR (fun s => [str s]) okS
instance : Rp strR 1 := .flat (fun _ => rfl) (fun _ => rfl)
abbrev StrsR (own : Bool) : RepT (List (List UInt8)) := SlR own 1 strR
def ResR (own : Bool) : RepT Res := fun H x c F => ∃ s, c = [.int .i64 x.code, .string ⟨⟨x.text⟩⟩, s] ∧ StrsR own H x.chain [s] F
theorem ResR.ext {own : Bool} {H H' : Heap} {x : Res} {c : List Value} {F : List Nat} (h : ResR own H x c F) (he : Ext H H') : ResR own H' x c F := by
  obtain ⟨s, rfl, h⟩ := h
  exact ⟨s, rfl, Rp.ext h he⟩
/-- A result that was read. -/
def ResOkR (own : Bool) : RepT Res := fun H x c F => ResR own H x c F ∧ okS x.text
instance {own : Bool} : Rp (ResR own) 3 where
  fr := by
    rintro H H' x c F ⟨s, rfl, h⟩ hf
    exact ⟨s, rfl, Rp.fr h hf⟩
  lt := by
    rintro H x c F ⟨s, rfl, h⟩
    exact Rp.lt h
  one := by
    rintro H x c F ⟨s, rfl, h⟩
    have := Rp.one h
    simp [ones, Value.oneCell'] at this ⊢
    exact this
  len := by
    rintro H x c F ⟨s, rfl, h⟩
    rfl
instance {own : Bool} : Rp (ResOkR own) 3 where
  fr h hf := ⟨Rp.fr h.1 hf, h.2⟩
  lt h := Rp.lt h.1
  one h := Rp.one h.1
  len h := Rp.len h.1
/-- Without a chain. -/
def Res.c (x : Res) : List Value := [.int .i64 x.code, .string ⟨⟨x.text⟩⟩, .slice none 0 0]
theorem Res.of {x : Res} {H : Heap} {own : Bool} (h : x.chain = []) : ResR own H x x.c [] := ⟨_, rfl, by rw [h]; exact SlR.nil⟩
theorem wrap_u8 {n : Int} (h1 : 0 ≤ n) (h2 : n < 256) : IntKind.u8.wrap n = n := by
  rw [IntKind.wrap_u8]; omega

/-! ### Marks -/
/-- The last digit. -/
def dig (k : Nat) : UInt8 := UInt8.ofNat (48 + k % 10)
abbrev byteR : RepT UInt8 := flatR (fun b => [.int .u8 (b.toNat : Int)]) fun _ => True
instance : Rp byteR 1 := .flat (fun _ => rfl) (fun _ => rfl)
abbrev BytesR (own : Bool) : RepT (List UInt8) := SlR own 1 byteR

end Go.Am

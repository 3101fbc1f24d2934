/- What a run computes: its steps, its turns. No condition. -/
import Derived.Test.YtbigpkfdeaigeaaDoorSpec
namespace Go.Am
open Go
set_option linter.unusedSimpArgs false
set_option linter.unusedVariables false

/-- A number's decimal digits. -/
def decN (n : Nat) : List UInt8 := if h : n < 10 then [dig n] else decN (n / 10) ++ [dig n]
termination_by n
decreasing_by omega
theorem decN_small {n : Nat} (h : n < 10) : decN n = [dig n] := by rw [decN, dif_pos h]
theorem decN_big {n : Nat} (h : ¬ n < 10) : decN n = decN (n / 10) ++ [dig n] := by rw [decN, dif_neg h]
theorem decN_len (n : Nat) : (decN n).length ≤ n + 1 := by
  induction n using Nat.strongRecOn with
  | _ n ih =>
    by_cases h : n < 10
    · rw [decN_small h]; simp
    · rw [decN_big h]
      have := ih (n / 10) (by omega)
      simp only [List.length_append, List.length_singleton]
      omega
/-- The words of a text, spaces and newlines between them. -/
def gapB (b : UInt8) : Bool := decide (b = 32) || decide (b = 10)
def wordsL : List UInt8 → List UInt8 → List (List UInt8)
  | [], w => if w = [] then [] else [w]
  | b :: s, w => if gapB b then (if w = [] then wordsL s [] else w :: wordsL s []) else wordsL s (w ++ [b])
def wordAt (s : List UInt8) (n : Nat) : List UInt8 := (wordsL s []).getD n []
def flagT (b : Bool) : List UInt8 := if b then [49] else [48]

/-- A run between two instructions. -/
structure Mst where
  at_ : Nat
  stk : List (List UInt8)
  steps : Nat
  looks : Nat
deriving DecidableEq
inductive Out
  | go (m : Mst)
  | fin (code : Int) (text : List UInt8) (steps : Nat)
  | look (ask : Bool) (name : List UInt8) (m : Mst)
deriving DecidableEq
def needOf (op : Int) : Nat := if op = 1 ∨ op = 10 then 0 else if op = 2 ∨ op = 6 ∨ op = 8 then 2 else 1
def top1 (s : List (List UInt8)) : List UInt8 := s.getD (s.length - 1) []
def top2 (s : List (List UInt8)) : List UInt8 := s.getD (s.length - 2) []
def cut1 (s : List (List UInt8)) : List (List UInt8) := s.take (s.length - 1)
def cut2 (s : List (List UInt8)) : List (List UInt8) := s.take (s.length - 2)
def pushM (m : Mst) (s : List (List UInt8)) (t : List UInt8) : Out :=
  if 2000 < t.length ∨ 50 ≤ s.length then .fin 2 (decN m.at_) m.steps else .go ⟨m.at_ + 1, s ++ [t], m.steps, m.looks⟩
def falseT (t : List UInt8) : Bool := decide (t = []) || decide (t = [48])
/-- What an instruction that puts one text leaves below it, and the text. -/
def putOf (x : Ins) (s : List (List UInt8)) : Option (List (List UInt8) × List UInt8) :=
  if x.op = 1 then some (s, x.text)
  else if x.op = 2 then some (cut2 s, top2 s ++ top1 s)
  else if x.op = 3 then some (cut1 s, (top1 s).take x.n.toNat)
  else if x.op = 4 then some (cut1 s, (top1 s).drop x.n.toNat)
  else if x.op = 5 then some (cut1 s, wordAt (top1 s) x.n.toNat)
  else if x.op = 6 then some (cut2 s, flagT (decide (top1 s = top2 s)))
  else if x.op = 7 then some (s, top1 s)
  else if x.op = 8 then some (cut2 s ++ [top1 s], top2 s)
  else none
def lookM (x : Ins) (m : Mst) : Out :=
  if nameOk (top1 m.stk) = false then .fin 2 (decN m.at_) m.steps
  else if m.looks = 200 then .fin 3 [] m.steps
  else .look (decide (x.op = 12)) (top1 m.stk) ⟨m.at_, cut1 m.stk, m.steps, m.looks + 1⟩
def moveM (x : Ins) (m : Mst) : Out :=
  if x.op = 9 then .go ⟨m.at_ + 1, cut1 m.stk, m.steps, m.looks⟩
  else if x.op = 10 then .go ⟨x.n.toNat, m.stk, m.steps, m.looks⟩
  else if x.op = 11 then .go ⟨if falseT (top1 m.stk) then x.n.toNat else m.at_ + 1, cut1 m.stk, m.steps, m.looks⟩
  else if x.op = 12 ∨ x.op = 13 then lookM x m
  else if x.op = 14 then .fin 1 (top1 m.stk) m.steps
  else .fin 0 (top1 m.stk) m.steps
/-- One instruction, at the place, its step counted. -/
def doIns (x : Ins) (m : Mst) : Out :=
  if m.stk.length < needOf x.op then .fin 2 (decN m.at_) m.steps
  else match putOf x m.stk with
    | some p => pushM m p.1 p.2
    | none => moveM x m
def insAt (code : List Ins) (i : Nat) : Ins := code.getD i Ins.zero
def mstep (code : List Ins) (m : Mst) : Out :=
  if code.length ≤ m.at_ then .fin 2 (decN m.at_) m.steps
  else if m.steps = 2000 then .fin 3 [] m.steps
  else doIns (insAt code m.at_) { m with steps := m.steps + 1 }
/-- What holds between instructions. -/
structure Mok (m : Mst) : Prop where
  at_ : m.at_ ≤ 200 + m.steps
  len : m.stk.length ≤ 50
  txt : ∀ t ∈ m.stk, t.length ≤ 2000
  steps : m.steps ≤ 2000
  looks : m.looks ≤ 200
def runF (code : List Ins) : Nat → Mst → Out
  | 0, m => .fin 3 [] m.steps
  | f + 1, m => match mstep code m with
    | .go m' => runF code f m'
    | o => o
def run (code : List Ins) (m : Mst) : Out := runF code (2001 - m.steps) m
def answ (ask : Bool) (name : List UInt8) (m : Mst) (r : Rpl) : Out :=
  if ask then
    (if r.has = false then .fin 4 name m.steps else if r.code ≠ 0 then .fin 5 name m.steps else .go ⟨m.at_ + 1, m.stk ++ [r.text], m.steps, m.looks⟩)
  else .go ⟨m.at_ + 1, m.stk ++ [flagT r.has], m.steps, m.looks⟩
def runO (code : List Ins) : Out → Out
  | .go m => run code m
  | o => o
def resume (code : List Ins) (o : Out) (r : Rpl) : Out :=
  match o with
  | .look a n m => runO code (answ a n m r)
  | o => o
def start : Mst := ⟨0, [], 0, 0⟩
def nextO (code : List Ins) (rs : List Rpl) : Out := rs.foldl (resume code) (run code start)
def turnOf : Out → Trn
  | .go m => ⟨false, 0, [], false, [], m.steps⟩
  | .fin c t n => ⟨true, c, t, false, [], n⟩
  | .look a s m => ⟨false, 0, [], a, s, m.steps⟩
def replyOk (r : Rpl) : Bool := decide (r.text.length ≤ 2000) && decide (0 ≤ r.code) && decide (r.code ≤ 7)
def nextOk (code : List Ins) (rs : List Rpl) : Bool := validP code && decide (rs.length ≤ 200) && rs.all replyOk
def next (code : List Ins) (rs : List Rpl) : Trn := if nextOk code rs then turnOf (nextO code rs) else ⟨false, 9, [], false, [], 0⟩

theorem validP_all {code : List Ins} (hc : validP code = true) {x : Ins} (hx : x ∈ code) : x.valid = true := by
  simp only [validP, Bool.and_eq_true] at hc
  exact List.all_eq_true.1 hc.2 x hx
end Go.Am

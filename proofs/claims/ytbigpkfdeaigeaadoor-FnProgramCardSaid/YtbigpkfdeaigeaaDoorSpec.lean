/- What the program's functions on names and spaces compute. No condition. -/
import Derived.Test.YtbigpkfdeaigeaaDoorDat2
import Derived.Lib.Strings
namespace Go.Am
open Go
set_option linter.unusedSimpArgs false
set_option linter.unusedVariables false

def nameB (b : UInt8) : Bool := decide (33 ≤ b.toNat) && decide (b.toNat ≤ 126)
def nameOk (s : List UInt8) : Bool := decide (1 ≤ s.length) && decide (s.length ≤ 60) && s.all nameB
def asc : List (List UInt8) → Bool
  | a :: b :: r => ltS a b && asc (b :: r)
  | _ => true
def sNames (x : Spc) : List (List UInt8) := x.sources.map (·.name)
def tNames (x : Spc) : List (List UInt8) := x.targets.map (·.name)
def checkSpace (x : Spc) : Int :=
  if 200 < x.sources.length + x.targets.length then 1
  else if ¬ (∀ s ∈ x.sources, nameOk s.name = true) ∨ ¬ (∀ s ∈ x.targets, nameOk s.name = true) then 2
  else if asc (sNames x) = false then 3
  else if asc (tNames x) = false then 4
  else if ¬ (∀ s ∈ x.sources, s.name ∉ tNames x) then 5
  else if ¬ (∀ s ∈ x.sources, s.text.length ≤ 2000) then 6
  else if ¬ (∀ t ∈ x.targets, validP t.action = true) then 7 else 0
/-- A space without what lies under a name. -/
def wout (x : Spc) (n : List UInt8) : Spc := ⟨x.sources.filter fun s => decide (s.name ≠ n), x.targets.filter fun t => decide (t.name ≠ n)⟩
theorem validP_len {l : List Ins} (h : validP l = true) : 1 ≤ l.length ∧ l.length ≤ 200 := by
  simp only [validP, Bool.and_eq_true, decide_eq_true_eq] at h
  exact h.1
/-- Drop: the space and the code. -/
def drop (x : Spc) (n : List UInt8) : Spc × Int :=
  if checkSpace x ≠ 0 then (⟨[], []⟩, 1) else if nameOk n = false then (⟨[], []⟩, 2) else if ¬ (n ∈ sNames x ∨ n ∈ tNames x) then (⟨[], []⟩, 4) else (wout x n, 0)
end Go.Am

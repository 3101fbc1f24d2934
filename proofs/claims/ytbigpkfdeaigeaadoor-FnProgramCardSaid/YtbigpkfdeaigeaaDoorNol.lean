/- A line of a program has no newline; what is printed tells the program. No condition. -/
import Derived.Test.YtbigpkfdeaigeaaDoorRdP
set_option linter.unusedSimpArgs false
set_option linter.unusedVariables false
namespace Go.Proofs.YtbigpkfdeaigeaaDoor
open Go Go.Am
set_option maxRecDepth 20000
theorem no10_q (b : UInt8) : (10 : UInt8) ∉ qByte b := by
  have h : ∀ n : Fin 256, (qByte (UInt8.ofNat n.val)).all (fun c => c != 10) = true := by decide
  have := h ⟨b.toNat, b.toNat_lt⟩
  simp only [UInt8.ofNat_toNat] at this
  intro hm
  have := List.all_eq_true.1 this _ hm
  simp at this
theorem no10_quote (s : List UInt8) : (10 : UInt8) ∉ quoteL s := by
  unfold quoteL qBody
  simp only [List.mem_cons, List.mem_append, List.mem_flatMap, List.mem_singleton, List.not_mem_nil, or_false, not_or, not_exists, not_and]
  exact ⟨by decide, fun b _ => no10_q b, by decide⟩
theorem no10_dec (n : Nat) : (10 : UInt8) ∉ decN n := by
  have hd : ∀ n : Nat, (10 : UInt8) ≠ dig n := fun n h => by
    have := congrArg UInt8.toNat h
    simp [dig] at this
    omega
  induction n using Nat.strongRecOn with
  | ind n ih =>
    rcases Nat.lt_or_ge n 10 with h | h
    · rw [decN_small h]
      simp only [List.mem_singleton]
      exact hd n
    · rw [decN_big (by omega)]
      simp only [List.mem_append, List.mem_singleton, not_or]
      exact ⟨ih (n / 10) (by omega), hd _⟩
theorem no10_word {op : Int} (h1 : 1 ≤ op) (h2 : op ≤ 15) : (10 : UInt8) ∉ (wordOf op).1 := by
  obtain ⟨n, rfl⟩ : ∃ n : Nat, op = n := ⟨op.toNat, by omega⟩
  have h : n = 1 ∨ n = 2 ∨ n = 3 ∨ n = 4 ∨ n = 5 ∨ n = 6 ∨ n = 7 ∨ n = 8 ∨ n = 9 ∨ n = 10 ∨ n = 11 ∨ n = 12 ∨ n = 13 ∨ n = 14 ∨ n = 15 := by omega
  rcases h with rfl | rfl | rfl | rfl | rfl | rfl | rfl | rfl | rfl | rfl | rfl | rfl | rfl | rfl | rfl
  all_goals decide
theorem no10_line {x : Ins} (hx : x.valid = true) : (10 : UInt8) ∉ lineL x := by
  simp only [Ins.valid, Bool.and_eq_true, decide_eq_true_eq] at hx
  have hw := no10_word hx.1.1.1.1.1 hx.1.1.1.1.2
  unfold lineL
  split
  · simp only [List.mem_append, List.mem_cons, not_or]
    exact ⟨hw, by decide, no10_quote _⟩
  · split
    · simp only [List.mem_append, List.mem_cons, not_or]
      exact ⟨hw, by decide, no10_dec _⟩
    · exact hw
end Go.Proofs.YtbigpkfdeaigeaaDoor

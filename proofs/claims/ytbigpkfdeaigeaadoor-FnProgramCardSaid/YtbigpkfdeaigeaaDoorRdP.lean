import Derived.Test.YtbigpkfdeaigeaaDoorByt
import Derived.Test.YtbigpkfdeaigeaaDoorLai
/- Reading lines of instructions: a line is that of one instruction at most. No condition. -/
set_option linter.unusedSimpArgs false
set_option linter.unusedVariables false
namespace Go.Am
open Go
def hexV (b : UInt8) : Nat := if b.toNat ≤ 57 then b.toNat - 48 else b.toNat - 87
theorem hexV_D {n : Nat} (h : n < 16) : hexV (hexD n) = n := by
  have : ∀ n : Fin 16, hexV (hexD n.val) = n.val := by decide
  exact this ⟨n, h⟩
/-- What stands in quotes, read. -/
def unqB : List UInt8 → List UInt8
  | [] => []
  | b :: r => if b = 92 then (match r with
    | a :: c :: r' => UInt8.ofNat (16 * hexV a + hexV c) :: unqB r'
    | r => b :: unqB r) else b :: unqB r
theorem unqB_q (b : UInt8) (r : List UInt8) : unqB (qByte b ++ r) = b :: unqB r := by
  unfold qByte
  cases hp : plainB b with
  | true =>
    have h92 : b ≠ 92 := by rintro rfl; simp [plainB] at hp
    rw [if_pos rfl, List.singleton_append]
    rcases r with _ | ⟨a, _ | ⟨c, r⟩⟩ <;> simp [unqB, h92]
  | false =>
    rw [if_neg (by simp)]
    show unqB (92 :: hexD (b.toNat / 16) :: hexD (b.toNat % 16) :: r) = b :: unqB r
    have hb := b.toNat_lt
    rw [unqB, if_pos rfl]
    rw [hexV_D (by omega), hexV_D (by omega), show 16 * (b.toNat / 16) + b.toNat % 16 = b.toNat by omega]
    simp
theorem unqB_body (s : List UInt8) : unqB (qBody s) = s := by
  induction s with
  | nil => rfl
  | cons b s ih =>
    show unqB (qByte b ++ qBody s) = _
    rw [unqB_q, ih]
theorem quoteL_inj {s t : List UInt8} (h : quoteL s = quoteL t) : s = t := by
  unfold quoteL at h
  have h1 := (List.append_inj_left' (List.cons.inj h).2 rfl)
  rw [← unqB_body s, h1, unqB_body]
/-- A number's digits, read. -/
def valD (l : List UInt8) : Nat := l.foldl (fun a b => 10 * a + (b.toNat - 48)) 0
theorem valD_app (l : List UInt8) (b : UInt8) : valD (l ++ [b]) = 10 * valD l + (b.toNat - 48) := by simp [valD]
theorem dig_val (n : Nat) : (dig n).toNat - 48 = n % 10 := by
  have : ∀ k : Fin 10, (UInt8.ofNat (48 + k.val)).toNat - 48 = k.val := by decide
  exact this ⟨n % 10, by omega⟩
theorem valD_dec (n : Nat) : valD (decN n) = n := by
  induction n using Nat.strongRecOn with
  | _ n ih =>
    by_cases h : n < 10
    · rw [decN_small h]
      have := valD_app [] (dig n)
      rw [List.nil_append] at this
      rw [this, dig_val]
      simp [valD]
      omega
    · rw [decN_big h, valD_app, ih (n / 10) (by omega), dig_val]
      omega
theorem decN_inj {n m : Nat} (h : decN n = decN m) : n = m := by rw [← valD_dec n, h, valD_dec]
/-- The word ahead. -/
def headW (s : List UInt8) : List UInt8 := s.takeWhile fun b => b ≠ 32
def opOf (w : List UInt8) : Int := ((List.range 15).find? fun k => (wordOf ((k + 1 : Nat) : Int)).1 = w).elim 0 fun k => (k + 1 : Nat)
theorem opOf_word {op : Int} (h1 : 1 ≤ op) (h2 : op ≤ 15) : opOf (wordOf op).1 = op ∧ headW (wordOf op).1 = (wordOf op).1 ∧ ∀ r, headW ((wordOf op).1 ++ 32 :: r) = (wordOf op).1 := by
  obtain ⟨n, rfl⟩ : ∃ n : Nat, op = n := ⟨op.toNat, by omega⟩
  have h : n = 1 ∨ n = 2 ∨ n = 3 ∨ n = 4 ∨ n = 5 ∨ n = 6 ∨ n = 7 ∨ n = 8 ∨ n = 9 ∨ n = 10 ∨ n = 11 ∨ n = 12 ∨ n = 13 ∨ n = 14 ∨ n = 15 := by omega
  rcases h with rfl | rfl | rfl | rfl | rfl | rfl | rfl | rfl | rfl | rfl | rfl | rfl | rfl | rfl | rfl
  all_goals exact ⟨by decide, by decide, fun r => by simp [headW, wordOf]⟩
theorem headW_line {x : Ins} (h1 : 1 ≤ x.op) (h2 : x.op ≤ 15) : headW (lineL x) = (wordOf x.op).1 := by
  obtain ⟨-, h3, h4⟩ := opOf_word h1 h2
  unfold lineL
  split
  · exact h4 _
  · split
    · exact h4 _
    · exact h3
theorem kind_topN {op : Int} (h1 : 1 ≤ op) (h2 : op ≤ 15) : ((wordOf op).2 = 1 → op = 1) ∧ ((wordOf op).2 ≤ 1 → max 0 (topN op) = 0) := by
  obtain ⟨n, rfl⟩ : ∃ n : Nat, op = n := ⟨op.toNat, by omega⟩
  have h : n = 1 ∨ n = 2 ∨ n = 3 ∨ n = 4 ∨ n = 5 ∨ n = 6 ∨ n = 7 ∨ n = 8 ∨ n = 9 ∨ n = 10 ∨ n = 11 ∨ n = 12 ∨ n = 13 ∨ n = 14 ∨ n = 15 := by omega
  rcases h with rfl | rfl | rfl | rfl | rfl | rfl | rfl | rfl | rfl | rfl | rfl | rfl | rfl | rfl | rfl
  all_goals exact ⟨by decide, by decide⟩
theorem lineL_inj {x y : Ins} (hx : x.valid = true) (hy : y.valid = true) (h : lineL x = lineL y) : x = y := by
  simp only [Ins.valid, Bool.and_eq_true, decide_eq_true_eq, Bool.or_eq_true, List.isEmpty_iff] at hx hy
  obtain ⟨⟨⟨⟨⟨a1, a2⟩, a3⟩, a4⟩, a5⟩, a6⟩ := hx
  obtain ⟨⟨⟨⟨⟨b1, b2⟩, b3⟩, b4⟩, b5⟩, b6⟩ := hy
  have hop : x.op = y.op := by
    rw [← (opOf_word a1 a2).1, ← headW_line a1 a2, h, headW_line b1 b2, (opOf_word b1 b2).1]
  obtain ⟨op, tx, xn⟩ := x
  obtain ⟨op', ty, yn⟩ := y
  dsimp only at hop a1 a2 a3 a4 a5 a6 b1 b2 b3 b4 b5 b6
  subst hop
  obtain ⟨k1, k2⟩ := kind_topN a1 a2
  unfold lineL at h
  dsimp only at h
  by_cases c1 : (wordOf op).2 = 1
  · rw [if_pos c1, if_pos c1] at h
    have h' := quoteL_inj (List.cons.inj (List.append_cancel_left h)).2
    have := k2 (by omega)
    have e : xn = yn := by omega
    rw [h', e]
  · rw [if_neg c1, if_neg c1] at h
    have ht : op ≠ 1 := by rintro rfl; exact c1 (by decide)
    have e1 : tx = [] := a4.resolve_left ht
    have e2 : ty = [] := b4.resolve_left ht
    by_cases c2 : 1 < (wordOf op).2
    · rw [if_pos c2, if_pos c2] at h
      have h' := decN_inj (List.cons.inj (List.append_cancel_left h)).2
      have e : xn = yn := by omega
      rw [e1, e2, e]
    · have := k2 (by omega)
      have e : xn = yn := by omega
      rw [e1, e2, e]
open Classical in
/-- The instruction whose line this is. -/
noncomputable def readL (s : List UInt8) : Option Ins := if h : ∃ x : Ins, x.valid = true ∧ lineL x = s then some h.choose else none
theorem readL_some {s : List UInt8} {x : Ins} (h1 : x.valid = true) (h2 : lineL x = s) : readL s = some x := by
  have h : ∃ x : Ins, x.valid = true ∧ lineL x = s := ⟨x, h1, h2⟩
  unfold readL
  rw [dif_pos h]
  congr 1
  exact lineL_inj h.choose_spec.1 h1 (h.choose_spec.2.trans h2.symm)
end Go.Am

/- The reference reads lines. No condition. -/
set_option linter.unusedSimpArgs false
set_option linter.unusedVariables false
namespace Go.Proofs.YtbigpkfdeaigeaaDoor
open Go Go.Am Go.Proofs
set_option maxRecDepth 20000
variable {ng : Nat}
def inQ (s : List UInt8) : List UInt8 := (s.drop 1).take (s.length - 2)
theorem inQ_len (s : List UInt8) : (inQ s).length = s.length - 2 := by
  unfold inQ
  rw [List.length_take, List.length_drop]
  omega
end Go.Proofs.YtbigpkfdeaigeaaDoor

/- The reference reads a line. No condition. -/
set_option linter.unusedSimpArgs false
set_option linter.unusedVariables false
namespace Go.Proofs.YtbigpkfdeaigeaaDoor
open Go Go.Am Go.Proofs
set_option maxRecDepth 20000
variable {ng : Nat}
theorem inQ_quote (t : List UInt8) : inQ (quoteL t) = qBody t := by
  unfold inQ quoteL
  simp
end Go.Proofs.YtbigpkfdeaigeaaDoor

/- The reference parses. No condition. -/
set_option linter.unusedSimpArgs false
set_option linter.unusedVariables false
namespace Go.Proofs.YtbigpkfdeaigeaaDoor
open Go Go.Am Go.Proofs
set_option maxRecDepth 20000
variable {ng : Nat}
/-- The pieces between newlines. -/
def cutN : List UInt8 → List UInt8 → List (List UInt8)
  | [], w => [w]
  | b :: s, w => if b = 10 then w :: cutN s [] else cutN s (w ++ [b])
theorem cutN_num : ∀ (s w : List UInt8), 1 ≤ (cutN s w).length ∧ (cutN s w).length ≤ s.length + 1
  | [], w => by simp [cutN]
  | b :: s, w => by
    have h1 := cutN_num s []
    have h2 := cutN_num s (w ++ [b])
    rw [cutN]
    split
    · simp only [List.length_cons]; omega
    · simp only [List.length_cons]; omega
end Go.Proofs.YtbigpkfdeaigeaaDoor

/- spec.ParseProgram. No condition. -/
set_option linter.unusedSimpArgs false
set_option linter.unusedVariables false
namespace Go.Proofs.YtbigpkfdeaigeaaDoor
open Go Go.Am Go.Proofs
set_option maxRecDepth 20000
variable {ng : Nat}
/-- What a reader of a program gives, from a place on: the code so far. -/
noncomputable def parseFrom (ls : List (List UInt8)) : Nat → Nat → List Ins → List Ins × Int × Int
  | 0, k, p => ([], 0, 0)
  | f + 1, k, p => if k + 1 < ls.length then (match readL (ls.getD k []) with
      | some x => parseFrom ls f (k + 1) (p ++ [x])
      | none => ([], 2, k))
    else if ls.getD (ls.length - 1) [] ≠ [] then ([], 2, ((ls.length - 1 : Nat) : Int))
    else if 200 < p.length then ([], 3, 0) else (p, 0, 0)
noncomputable def parseP (src : List UInt8) : List Ins × Int × Int :=
  if src = [] ∨ 1500000 < src.length then ([], 1, 0) else parseFrom (cutN src []) (cutN src []).length 0 []
theorem readL_spec {s : List UInt8} {x : Ins} (h : readL s = some x) : x.valid = true ∧ lineL x = s := by
  unfold readL at h
  split at h
  · rename_i hx
    injection h with h
    rw [← h]
    exact hx.choose_spec
  · cases h
theorem ins_ok {x : Ins} (h : x.valid = true) : x.ok := by
  obtain ⟨v1, v2, v3, v4, v5, v6, v7⟩ := valid_parts h
  refine ⟨⟨by omega, by omega⟩, ?_, ⟨by omega, by omega⟩⟩
  unfold okS
  omega
theorem parse_s {ls : List (List UInt8)} {k : Nat} {p : List Ins} {x : Ins} (h : k + 1 < ls.length) (hr : readL (ls.getD k []) = some x) : parseFrom ls (ls.length - k) k p = parseFrom ls (ls.length - (k + 1)) (k + 1) (p ++ [x]) := by
  obtain ⟨f, hf⟩ : ∃ f, ls.length - k = f + 1 := ⟨ls.length - k - 1, by omega⟩
  rw [hf, parseFrom, if_pos h, hr, show ls.length - (k + 1) = f by omega]
theorem parse_n {ls : List (List UInt8)} {k : Nat} {p : List Ins} (h : k + 1 < ls.length) (hr : readL (ls.getD k []) = none) : parseFrom ls (ls.length - k) k p = ([], 2, (k : Int)) := by
  obtain ⟨f, hf⟩ : ∃ f, ls.length - k = f + 1 := ⟨ls.length - k - 1, by omega⟩
  rw [hf, parseFrom, if_pos h, hr]
theorem parse_e {ls : List (List UInt8)} {k : Nat} {p : List Ins} (h : k + 1 = ls.length) : parseFrom ls (ls.length - k) k p = if ls.getD (ls.length - 1) [] ≠ [] then ([], 2, ((ls.length - 1 : Nat) : Int)) else if 200 < p.length then ([], 3, 0) else (p, 0, 0) := by
  obtain ⟨f, hf⟩ : ∃ f, ls.length - k = f + 1 := ⟨ls.length - k - 1, by omega⟩
  rw [hf, parseFrom, if_neg (by omega)]
end Go.Proofs.YtbigpkfdeaigeaaDoor

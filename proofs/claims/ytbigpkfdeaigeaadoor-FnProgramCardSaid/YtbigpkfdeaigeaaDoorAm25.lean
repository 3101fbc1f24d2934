/- Loops over the slots as they stand; lists marked; calls whose contract is known. No condition. -/
import Derived.Test.YtbigpkfdeaigeaaDoorAm24
import Derived.Sort.Grow
import Derived.Deep.Draws
namespace Go.Am
open Go
set_option linter.unusedSimpArgs false
set_option linter.unusedVariables false

variable {P : Program} {ng n : Nat} {ex : List (Nat × Ord)}

/-! ### Loops -/
def updT : List Value → List (Nat × Value) → List Value
  | tm, [] => tm
  | tm, (k, v) :: r => updT (tm.set k v) r
theorem updT_nil {tm : List Value} : updT tm [] = tm := opq rfl
theorem updT_cons {tm : List Value} {k : Nat} {v : Value} {r : List (Nat × Value)} : updT tm ((k, v) :: r) = updT (tm.set k v) r := opq rfl
attribute [simp] updT_nil updT_cons
/-- A loop: the slots `ks` live on, those of `upd` change. -/
theorem LoopA.up {σ : Type} {c : Code} {tm : List Value} {hp : Heap} {Q : Exit → St → Prop} (ks : List Nat) (upd : σ → List (Nat × Value)) (hpf : σ → Heap) (ok : σ → Prop) (μ : σ → Nat) (x0 : σ)
    (hst : (⟨keepT ks 0 tm, hp⟩ : St) = ⟨updT (keepT ks 0 tm) (upd x0), hpf x0⟩) (h0 : ok x0)
    (round : ∀ x, ok x → wpc P ng n ex c ⟨updT (keepT ks 0 tm) (upd x), hpf x⟩ (thenA (LoopN ks (fun x => ⟨updT (keepT ks 0 tm) (upd x), hpf x⟩) ok μ x) Q)) : LoopA P ng n ex c ⟨tm, hp⟩ Q :=
  LoopA.by ks (fun x => ⟨updT (keepT ks 0 tm) (upd x), hpf x⟩) ok μ x0 (by rw [keepS_mk]; exact hst) h0 round

/-- A loop that leaves the heap as it is. -/
theorem LoopA.upc {σ : Type} {c : Code} {tm : List Value} {hp : Heap} {Q : Exit → St → Prop} (ks : List Nat) (upd : σ → List (Nat × Value)) (ok : σ → Prop) (μ : σ → Nat) (x0 : σ)
    (hst : keepT ks 0 tm = updT (keepT ks 0 tm) (upd x0)) (h0 : ok x0)
    (round : ∀ x, ok x → wpc P ng n ex c ⟨updT (keepT ks 0 tm) (upd x), hp⟩ (thenA (LoopN ks (fun x => ⟨updT (keepT ks 0 tm) (upd x), hp⟩) ok μ x) Q)) : LoopA P ng n ex c ⟨tm, hp⟩ Q :=
  LoopA.by ks (fun x => ⟨updT (keepT ks 0 tm) (upd x), hp⟩) ok μ x0 (by rw [keepS_mk, ← hst]) h0 round

/-! ### Lists, marked -/
section
variable {α : Type}
def sumN (m : α → Nat) (l : List α) : Nat := (l.map m).sum
end

/-- A part of an element. -/
theorem Elt.part {α : Type} {R : RepT α} {sz : Nat} [Rp R sz] {own : Bool} {H : Heap} {l : List α} {s : Value} {F : List Nat} {i : Nat} {x : α} {id o : Nat} {c : Array Value} {e : TypeId} {f : Nat × Nat} {ow : Bool} {cs : List Value} {Fi : List Nat}
    (E : Elt R sz own H l s F i x id o c e f ow cs Fi) (j m : Nat) (h : j + m ≤ sz) : c.extract (o + j) (o + j + m) = ((cs.drop j).take m).toArray := by
  have hle := E.le
  have hlen := E.len
  apply Array.ext_getElem?
  intro k
  by_cases hk : k < m
  · have := E.cell (j + k) (by omega)
    rw [← Nat.add_assoc] at this
    simp only [Array.getElem?_extract, List.getElem?_toArray, List.getElem?_take, List.getElem?_drop, if_pos hk, ← this]
    rw [if_pos (by omega)]
  · rw [Array.getElem?_eq_none (by simp; omega)]
    simp [List.getElem?_take, hk]
/-! ### Calls whose contract is known -/
theorem VRs_flat {E : Emb} {args : List Value} {args' : Array Value} (hf : args.all flat = true) (h : VRs E args args') : args' = args.toArray := by
  obtain ⟨h1, h2⟩ := h
  apply Array.ext (by simpa using h1.symm)
  intro i a b
  have := (h2 i (by simpa using b) a).eq (by
    rw [List.all_eq_true] at hf
    exact hf _ (List.getElem_mem _))
  simpa using this
theorem AC.ofCalls {f : FuncId} {args : List Value} {S : Heap} {v : Value} (hf : args.all Am.flat = true) (hv : flatT v = true) (h : ∀ w, Calls P f args.toArray w fun e w' => e = .returned v ∧ w' = w) :
    AC P ng f args S fun u S' => u = v ∧ S' = S := by
  intro E args' w h1 h2 h3
  rw [VRs_flat hf h1]
  refine (h w).mono ?_
  rintro e w' ⟨rfl, rfl⟩
  exact ⟨v, v, S, E, rfl, ⟨rfl, rfl⟩, VR.reflT E hv, h2, Nat.le_refl _, Grow.refl _ _ _ _⟩
theorem Rel.more {E : Emb} {S : Heap} {w w' : World} (h : Rel ng E S w) (hs : w.heap.size ≤ w'.heap.size) (hw : ∀ b, b < w.heap.size → w'.heap[b]? = w.heap[b]?) : Rel ng E S w' where
  blk id l he := by
    obtain ⟨b, hb, hlt, ho⟩ := h.blk id l he
    exact ⟨b, hb, by omega, fun hl => (ho hl).congr (hw _ hlt)⟩
  apart := h.apart
  glob := h.glob
theorem Grow.more {m : Nat} {E : Emb} {S : Heap} {w w' : World} (h1 : w'.os = w.os) (h2 : w'.tape = w.tape) (h3 : w'.output = w.output) (hs : w.heap.size ≤ w'.heap.size) (hw : ∀ b, b < w.heap.size → w'.heap[b]? = w.heap[b]?) : Grow m E S w E S w' :=
  ⟨fun _ _ => rfl, h1, h2, h3, hs, fun b hb _ => hw b hb, fun id l bl a b c d _ => ⟨id, l, bl, a, b, c, d, rfl⟩⟩
theorem AC.ofGrow {f : FuncId} {args : List Value} {S : Heap} {v : Value} (hf : args.all Am.flat = true) (hv : flatT v = true) (h : ∀ E w, Rel ng E S w → Calls P f args.toArray w fun e w' => e = .returned v ∧ ∃ k os, w' = Go.Sort.grow (w.drewN k) os) :
    AC P ng f args S fun u S' => u = v ∧ S' = S := by
  intro E args' w h1 h2 h3
  rw [VRs_flat hf h1]
  refine (h E w h2).mono ?_
  rintro e w' ⟨rfl, k, os, rfl⟩
  have hs : w.heap.size ≤ (Go.Sort.grow (w.drewN k) os).heap.size := by simp [Go.Sort.grow, World.drewN]
  have hw : ∀ b, b < w.heap.size → (Go.Sort.grow (w.drewN k) os).heap[b]? = w.heap[b]? := fun b hb => by
    simp only [Go.Sort.grow, World.drewN]
    exact Array.getElem?_append_left hb
  exact ⟨v, v, S, E, rfl, ⟨rfl, rfl⟩, VR.reflT E hv, h2.more hs hw, Nat.le_refl _, Grow.more rfl rfl rfl hs hw⟩

/-! ### Halves -/
/-! ### Strings in order -/
/-- Is the first the lesser? -/
abbrev ltS (l r : List UInt8) : Bool := Op.bytesLess l r
section
variable {t : TypeId} {x y : Operand} {l r : List UInt8}
theorem toList_mk (l : List UInt8) : (⟨⟨l⟩⟩ : ByteArray).toList = l := by
  rw [ByteArray.toList_eq]
theorem beq_list (l r : List UInt8) : (l == r) = decide (l = r) := by rw [Bool.eq_iff_iff]; simp
theorem bin_llss : bin? P .lss t x y (.string ⟨⟨l⟩⟩) (.string ⟨⟨r⟩⟩) = some (.bool (ltS l r)) := by
  show some (Value.bool (Op.bytesLess (⟨⟨l⟩⟩ : ByteArray).toList (⟨⟨r⟩⟩ : ByteArray).toList)) = _
  rw [toList_mk, toList_mk]
theorem bin_lgeq : bin? P .geq t x y (.string ⟨⟨l⟩⟩) (.string ⟨⟨r⟩⟩) = some (.bool (!ltS l r)) := by
  show some (Value.bool (!Op.bytesLess (⟨⟨l⟩⟩ : ByteArray).toList (⟨⟨r⟩⟩ : ByteArray).toList)) = _
  rw [toList_mk, toList_mk]
theorem bin_lgtr : bin? P .gtr t x y (.string ⟨⟨l⟩⟩) (.string ⟨⟨r⟩⟩) = some (.bool (!(ltS l r || decide (l = r)))) := by
  show some (Value.bool (!(Op.bytesLess (⟨⟨l⟩⟩ : ByteArray).toList (⟨⟨r⟩⟩ : ByteArray).toList || ((⟨⟨l⟩⟩ : ByteArray).toList == (⟨⟨r⟩⟩ : ByteArray).toList)))) = _
  rw [toList_mk, toList_mk, beq_list]
theorem bin_lleq : bin? P .leq t x y (.string ⟨⟨l⟩⟩) (.string ⟨⟨r⟩⟩) = some (.bool (ltS l r || decide (l = r))) := by
  show some (Value.bool (Op.bytesLess (⟨⟨l⟩⟩ : ByteArray).toList (⟨⟨r⟩⟩ : ByteArray).toList || ((⟨⟨l⟩⟩ : ByteArray).toList == (⟨⟨r⟩⟩ : ByteArray).toList))) = _
  rw [toList_mk, toList_mk, beq_list]
attribute [simp] bin_llss bin_lgeq bin_lgtr bin_lleq
end

end Go.Am

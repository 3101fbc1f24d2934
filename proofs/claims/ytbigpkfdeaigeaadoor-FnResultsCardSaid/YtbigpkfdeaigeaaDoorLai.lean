import Derived.Test.YtbigpkfdeaigeaaDoorByt
import Derived.Test.YtbigpkfdeaigeaaDoorShelf
import Derived.Test.YtbigpkfdeaigeaaDoorAm30
import Derived.Test.YtbigpkfdeaigeaaDoorProg
import Derived.WalkKit
import Derived.Lib.Builder
import Derived.Lib.UnsafeStr
import Derived.Laws.Externs
import Derived.Shelf.RegionOpenPlain
import Derived.Test.YtbigpkfdeaigeaaDoorAm31
/- What is told of the program's variables; numbers as text by the library. No condition. -/
set_option linter.unusedSimpArgs false
set_option linter.unusedVariables false
namespace Go.Am
open Go
/-- The table of the powers of ten. -/
def P10 (g : Nat) (H : Heap) : Prop := ∃ e f, H[g]? = some ⟨.cells (Lib.pow10Tab.map fun z => Value.int .u64 z).toArray e f, true, false⟩
theorem P10.ext {g : Nat} {H H' : Heap} (h : P10 g H) (he : Ext H H') : P10 g H' := by
  obtain ⟨e, f, h⟩ := h
  exact ⟨e, f, (he _ (List.getElem?_eq_some_iff.1 h).1).trans h⟩
theorem P10.tab {P : Program} {ng g : Nat} {name : String} {E : Emb} {H : Heap} {w : World} (h : P10 g H) (hg : g < ng) (hn : P.globalNamed name = some g) (hr : Rel ng E H w) : Lib.TabIs P w name .u64 Lib.pow10Tab := by
  obtain ⟨e, f, h⟩ := h
  obtain ⟨room, hE, hw⟩ := hr.glob g hg
  obtain ⟨b, hb, hlt, ho⟩ := hr.blk g _ hE
  rw [h] at hb
  obtain rfl := Option.some.inj hb
  obtain ⟨c', e', fr, h1, h2, h3, h4, h5⟩ := ho rfl
  have h6 := hw _ _ _ h
  unfold Lib.TabIs World.var?
  rw [hn]
  dsimp only [Option.bind]
  dsimp only at h1 h2 h3 h4
  rw [h1]
  dsimp only
  congr 1
  apply Array.ext
  · rw [← h2, ← h6]
  · intro i hi1 hi2
    obtain ⟨v', q1, q2⟩ := h4 i hi2
    rw [Nat.zero_add, Array.getElem?_eq_getElem hi1] at q1
    rw [Option.some.inj q1]
    simp only [List.getElem_toArray, List.getElem_map] at q2 ⊢
    exact q2.eq rfl
/-- The words of instructions, as the program keeps them. -/
def WordsG (g : Nat) (H : Heap) : Prop := ∃ sv F e f, H[g]? = some ⟨.cells #[sv] e f, true, false⟩ ∧ SlR false 1 strR H wordsT [sv] F
theorem WordsG.ext {g : Nat} {H H' : Heap} (h : WordsG g H) (he : Ext H H') : WordsG g H' := by
  obtain ⟨sv, F, e, f, h, hr⟩ := h
  exact ⟨sv, F, e, f, (he _ (List.getElem?_eq_some_iff.1 h).1).trans h, Rp.ext hr he⟩
end Go.Am
namespace Go.Proofs.YtbigpkfdeaigeaaDoor
open Go Go.Am Go.Proofs
set_option maxRecDepth 20000
variable {ng : Nat}
def g10 : Nat := 2
end Go.Proofs.YtbigpkfdeaigeaaDoor

/- strings.Builder, walked in the world. No condition. -/
set_option linter.unusedSimpArgs false
set_option linter.unusedVariables false
namespace Go.Proofs.YtbigpkfdeaigeaaDoor
open Go Go.RowKit Go.Lib Go.Proofs
end Go.Proofs.YtbigpkfdeaigeaaDoor

/- strings.Builder. No condition. -/
set_option linter.unusedSimpArgs false
set_option linter.unusedVariables false
namespace Go.Am
open Go
variable {P : Program} {ng : Nat}
/-- A buffer of bytes, of a known type. -/
def BufR (et : TypeId) (H : Heap) (l : List UInt8) (sv : Value) (F : List Nat) : Prop :=
  (sv = .slice none 0 0 ∧ l = [] ∧ F = []) ∨ ∃ id c q, sv = .slice (some ⟨id, 0, none⟩) l.length 1 ∧ F = [id] ∧ H[id]? = some ⟨.cells c et (0, q), true, true⟩ ∧ l.length ≤ c.size ∧ seg c 0 l.length = (l.map fun b => Value.int .u8 (b.toNat : Int)) ∧ l ≠ []
theorem BufR.lt {et : TypeId} {H : Heap} {l : List UInt8} {sv : Value} {F : List Nat} (h : BufR et H l sv F) : ∀ i ∈ F, i < H.length := by
  rcases h with ⟨_, _, rfl⟩ | ⟨id, c, q, _, rfl, hb, _⟩
  · simp
  · intro i hi
    obtain rfl : i = id := by simpa using hi
    exact (List.getElem?_eq_some_iff.1 hb).1
theorem BufR.fr {et : TypeId} {H H' : Heap} {l : List UInt8} {sv : Value} {F : List Nat} (h : BufR et H l sv F) (hf : ∀ i ∈ F, H'[i]? = H[i]?) : BufR et H' l sv F := by
  rcases h with h | ⟨id, c, q, h1, rfl, hb, h2⟩
  · exact .inl h
  · exact .inr ⟨id, c, q, h1, rfl, (hf id (by simp)).trans hb, h2⟩
theorem BufR.ext {et : TypeId} {H H' : Heap} {l : List UInt8} {sv : Value} {F : List Nat} (h : BufR et H l sv F) (he : Ext H H') : BufR et H' l sv F := h.fr fun i hi => he i (h.lt i hi)
theorem BufR.known {et : TypeId} {H : Heap} {l : List UInt8} {sv : Value} {F : List Nat} (h : BufR et H l sv F) : ∃ a z, sv = .slice a l.length z := by
  rcases h with ⟨rfl, rfl, _⟩ | ⟨id, c, q, rfl, _⟩
  · exact ⟨_, _, rfl⟩
  · exact ⟨_, _, rfl⟩
/-- A builder: its block; what it holds. -/
def BldR (bt et : TypeId) (H : Heap) (id : Nat) (l : List UInt8) (F : List Nat) : Prop :=
  ∃ pv sv, H[id]? = some ⟨.cells #[pv, sv] bt (0, 0), true, true⟩ ∧ BufR et H l sv F ∧ id ∉ F ∧ (pv = .pointer none ∨ pv = .pointer (some ⟨id, 0, none⟩))
theorem BldR.fr {bt et : TypeId} {H H' : Heap} {id : Nat} {l : List UInt8} {F : List Nat} (h : BldR bt et H id l F) (hi : H'[id]? = H[id]?) (hf : ∀ i ∈ F, H'[i]? = H[i]?) : BldR bt et H' id l F := by
  obtain ⟨pv, sv, h1, h2, h3, h4⟩ := h
  exact ⟨pv, sv, hi.trans h1, h2.fr hf, h3, h4⟩
theorem BldR.lt {bt et : TypeId} {H : Heap} {id : Nat} {l : List UInt8} {F : List Nat} (h : BldR bt et H id l F) : id < H.length ∧ ∀ i ∈ F, i < H.length := by
  obtain ⟨pv, sv, h1, h2, h3, h4⟩ := h
  exact ⟨(List.getElem?_eq_some_iff.1 h1).1, h2.lt⟩
theorem BldR.ext {bt et : TypeId} {H H' : Heap} {id : Nat} {l : List UInt8} {F : List Nat} (h : BldR bt et H id l F) (he : Ext H H') : BldR bt et H' id l F := h.fr (he id h.lt.1) fun i hi => he i (h.lt.2 i hi)
end Go.Am
namespace Go.Proofs.YtbigpkfdeaigeaaDoor
open Go Go.Am Go.Proofs
set_option maxRecDepth 20000
variable {ng : Nat}
end Go.Proofs.YtbigpkfdeaigeaaDoor

/- Lines of instructions; PrintProgram, both. No condition. -/
set_option linter.unusedSimpArgs false
set_option linter.unusedVariables false
namespace Go.Proofs.YtbigpkfdeaigeaaDoor
open Go Go.Am Go.Proofs
set_option maxRecDepth 20000
variable {ng : Nat}
end Go.Proofs.YtbigpkfdeaigeaaDoor

/- The laid variables of the program, in an abstract heap. No condition. -/
set_option linter.unusedSimpArgs false
set_option linter.unusedVariables false
namespace Go.Proofs.YtbigpkfdeaigeaaDoor
open Go Go.Am Go.Proofs
set_option maxRecDepth 20000
theorem heap_ge {P : Program} {W : World} {laid : List (String × DataW Unit)} {ps : List MemPlace} (h : DataW.LaidVars P W laid ps) {n : String} {d : DataW Unit} {g : Nat} (hm : (n, d) ∈ laid) (hg : P.globalNamed n = some g) : g < W.heap.size := by
  obtain ⟨g', t, cs, fuel, p, h1, h2, h3, h4⟩ := laid_at h hm
  obtain rfl := Option.some.inj (hg.symm.trans h1)
  obtain ⟨e, fr, hb⟩ := var_heap hg h3
  exact (Array.getElem?_eq_some_iff.1 hb).1
abbrev pow10D : DataW Unit := Lib.tabData .u64 Lib.pow10Tab
/-- The powers of ten alone. -/
theorem laid10 {W : World} {laid : List (String × DataW Unit)} (h : laidMetH Tryd.prog laid W) (hn : (laid.filter fun x => x.2.handleName?.isSome) = []) (h10 : ("internal/strconv.uint64pow10", pow10D) ∈ laid) :
    ∃ E S, Im E S W ∧ (∀ g, g < g10 + 1 → ∃ room, E g = some ⟨g, 0, room⟩ ∧ WholeV S g room) ∧ g10 + 1 ≤ S.length ∧ ∀ T, P10 g10 (S ++ T) := by
  obtain ⟨ps, hL⟩ := laid_plain h hn
  have hsz := heap_ge hL h10 (g := g10) (by kernel_rfl)
  have t0 := Told.start (W := W) (ng := g10 + 1) (by omega)
  have t1 := t0.tab hL h10 (by kernel_rfl) (Nat.lt_succ_self g10) (by kernel_rfl) Tryd.underlying102 Tryd.underlying91 (by kernel_rfl) (by kernel_rfl)
  refine ⟨_, _, t1.im, t1.glob, t1.len, fun T => ⟨0, (1, 1), ?_⟩⟩
  rw [List.getElem?_append_left (by simp [g10]), List.getElem?_set_self (by simp [g10])]
end Go.Proofs.YtbigpkfdeaigeaaDoor

/- The laid variables of the program, in an abstract heap. No condition. -/
import Derived.Test.YtehhjbomdohgoaaDoorLin
import Derived.Test.YtehhjbomdohgoaaDoorAm31
set_option linter.unusedSimpArgs false
set_option linter.unusedVariables false
namespace Go.Proofs.YtehhjbomdohgoaaDoor
open Go Go.Am Go.Proofs
set_option maxRecDepth 20000
theorem heap_ge {P : Program} {W : World} {laid : List (String × DataW Unit)} {ps : List MemPlace} (h : DataW.LaidVars P W laid ps) {n : String} {d : DataW Unit} {g : Nat} (hm : (n, d) ∈ laid) (hg : P.globalNamed n = some g) : g < W.heap.size := by
  obtain ⟨g', t, cs, fuel, p, h1, h2, h3, h4⟩ := laid_at h hm
  obtain rfl := Option.some.inj (hg.symm.trans h1)
  obtain ⟨e, fr, hb⟩ := var_heap hg h3
  exact (Array.getElem?_eq_some_iff.1 hb).1
abbrev pow10D : DataW Unit := Lib.tabData .u64 Lib.pow10Tab
abbrev wordsD : DataW Unit := .slice (wordsT.map fun l => .lit (.string l)) []
/-- The powers of ten alone. -/
theorem laid10 {W : World} {laid : List (String × DataW Unit)} (h : laidMetH Tryd.prog laid W) (hn : (laid.filter fun x => x.2.handleName?.isSome) = []) (h10 : ("internal/strconv.uint64pow10", pow10D) ∈ laid) :
    ∃ E S, Im E S W ∧ (∀ g, g < g10 + 1 → ∃ room, E g = some ⟨g, 0, room⟩ ∧ WholeV S g room) ∧ g10 + 1 ≤ S.length ∧ ∀ T, P10 g10 (S ++ T) := by
  obtain ⟨ps, hL⟩ := laid_plain h hn
  have hsz := heap_ge hL h10 (g := g10) (by kernel_rfl)
  have t0 := Told.start (W := W) (ng := g10 + 1) (by omega)
  have t1 := t0.tab hL h10 (by kernel_rfl) (Nat.lt_succ_self g10) (by kernel_rfl) Tryd.underlying197 Tryd.underlying178 (by kernel_rfl) (by kernel_rfl)
  refine ⟨_, _, t1.im, t1.glob, t1.len, fun T => ⟨0, (1, 1), ?_⟩⟩
  rw [List.getElem?_append_left (by simp [g10]), List.getElem?_set_self (by simp [g10])]
theorem rep_strs {H : Heap} : ∀ {l : List (List UInt8)}, (∀ x ∈ l, okS x) → RepL strR H l (l.map (fun s => .string ⟨⟨s⟩⟩)) []
  | [], _ => ⟨rfl, rfl⟩
  | x :: l, h => ⟨[.string ⟨⟨x⟩⟩], _, [], [], rfl, rfl, ⟨rfl, rfl, h x (by simp)⟩, rep_strs fun y hy => h y (by simp [hy])⟩
/-- The powers of ten and the words. -/
theorem laidW {W : World} {laid : List (String × DataW Unit)} (h : laidMetH Tryd.prog laid W) (hn : (laid.filter fun x => x.2.handleName?.isSome) = []) (h10 : ("internal/strconv.uint64pow10", pow10D) ∈ laid) (hw : ("loop.example/kilndeed/impl.words", wordsD) ∈ laid) :
    ∃ E S, Im E S W ∧ (∀ g, g < g10 + 1 → ∃ room, E g = some ⟨g, 0, room⟩ ∧ WholeV S g room) ∧ g10 + 1 ≤ S.length ∧ ∀ T, P10 g10 (S ++ T) ∧ WordsG gW (S ++ T) := by
  obtain ⟨ps, hL⟩ := laid_plain h hn
  have hsz := heap_ge hL h10 (g := g10) (by kernel_rfl)
  have t0 := Told.start (W := W) (ng := g10 + 1) (by omega)
  have t1 := t0.tab hL h10 (by kernel_rfl) (Nat.lt_succ_self g10) (by kernel_rfl) Tryd.underlying197 Tryd.underlying178 (by kernel_rfl) (by kernel_rfl)
  obtain ⟨E, t2, -⟩ := t1.strs hL hw (g := gW) (by kernel_rfl) (by simp [gW, g10]) (by kernel_rfl) Tryd.underlying23 Tryd.underlying9 (by kernel_rfl) (by simp [wordsT])
  refine ⟨_, _, t2.im, t2.glob, t2.len, fun T => ⟨⟨0, (1, 1), ?_⟩, _, [_], 0, (1, 1), ?_, SlR.lit (j := g10 + 1) (c := wordsT.map fun l => Value.string ⟨⟨l⟩⟩) (e := 0) (f := (1, 1)) (o := false) (G := []) ?_ (rep_strs (by simp [wordsT, okS])) (by simp [wordsT]) (fun h => by cases h)⟩⟩
  · rw [List.append_assoc, List.getElem?_append_left (by simp [g10]), List.getElem?_set_ne (by simp [gW, g10]), List.getElem?_set_self (by simp [g10])]
  · rw [List.append_assoc, List.getElem?_append_left (by simp [gW, g10]), List.getElem?_set_self (by simp [gW, g10])]
    simp
  · rw [List.append_assoc, List.getElem?_append_right (by simp)]
    simp
end Go.Proofs.YtehhjbomdohgoaaDoor

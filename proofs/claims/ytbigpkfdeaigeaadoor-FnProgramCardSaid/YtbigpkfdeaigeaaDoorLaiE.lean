/- The laid variables of the program that reads texts: powers of ten, words, an error. No condition. -/
import Derived.Test.YtbigpkfdeaigeaaDoorLai
import Derived.Test.YtbigpkfdeaigeaaDoorParW
import Derived.LaidLaws
set_option linter.unusedSimpArgs false
set_option linter.unusedVariables false
namespace Go.Am
open Go
theorem Told.ifc {P : Program} {W : World} {ng : Nat} {E : Emb} {S : Heap} (h : Told ng E S W) {laid : List (String × DataW Unit)} {ps : List MemPlace} (hL : DataW.LaidVars P W laid ps) {name nm : String} {d : DataW Unit} {g : Nat} {t : TypeId} {ms : Array (String × TypeId)} (hm : (name, DataW.iface nm d) ∈ laid)
    (hg : P.globalNamed name = some g) (hgn : g < ng) (hty : (P.globals[g]?).map (·.type) = some t) (ht : P.underlying t = some (.interface ms)) :
    ∃ u, Told ng E (S.set g ⟨.cells #[.iface u (.tuple #[])] 0 (1, 1), true, false⟩) W := by
  obtain ⟨g', t', cs, fuel, p, h1, h2, h3, h4⟩ := laid_at hL hm
  obtain rfl := Option.some.inj (hg.symm.trans h1)
  obtain rfl := Option.some.inj (hty.symm.trans h2)
  obtain ⟨e0, fr, hb⟩ := var_heap hg h3
  obtain ⟨f1, u, v, hcs, hn, hr⟩ := iface_of_trod ht h4
  refine ⟨u, h.cells hgn hb [.iface u (.tuple #[])] (by have := congrArg List.length hcs; simpa using this.symm) fun i w hw => ?_⟩
  cases i with
  | zero =>
    simp only [List.getElem?_cons_zero, Option.some.injEq] at hw
    subst hw
    refine ⟨.iface u v, ?_, .iface _ (.any _)⟩
    have := congrArg (·[0]?) hcs
    simpa using this
  | succ i => simp at hw
end Go.Am
namespace Go.Proofs.YtbigpkfdeaigeaaDoor
open Go Go.Am Go.Proofs
set_option maxRecDepth 20000
abbrev errD : DataW Unit := .iface "*errors.errorString" (.ptr (.agg [.lit (.string [105, 110, 118, 97, 108, 105, 100, 32, 115, 121, 110, 116, 97, 120])]))
theorem laidE {W : World} {laid : List (String × DataW Unit)} (h : laidMetH Tryd.prog laid W) (hn : (laid.filter fun x => x.2.handleName?.isSome) = []) (h10 : ("internal/strconv.uint64pow10", pow10D) ∈ laid) (hw : ("loop.example/kilndeed/impl.words", wordsD) ∈ laid) (he : ("strconv.ErrSyntax", errD) ∈ laid) :
    ∃ E S, Im E S W ∧ (∀ g, g < gE + 1 → ∃ room, E g = some ⟨g, 0, room⟩ ∧ WholeV S g room) ∧ gE + 1 ≤ S.length ∧ ∀ T, P10 g10 (S ++ T) ∧ WordsG gW (S ++ T) ∧ ErrG gE (S ++ T) := by
  obtain ⟨ps, hL⟩ := laid_plain h hn
  have hsz := heap_ge hL he (g := gE) (by kernel_rfl)
  have t0 := Told.start (W := W) (ng := gE + 1) (by omega)
  have t1 := t0.tab hL h10 (g := g10) (by kernel_rfl) (by decide) (by kernel_rfl) Tryd.underlying102 Tryd.underlying91 (by kernel_rfl) (by kernel_rfl)
  obtain ⟨u, t2⟩ := t1.ifc hL he (g := gE) (by kernel_rfl) (Nat.lt_succ_self gE) (by kernel_rfl) Tryd.underlying60
  obtain ⟨E, t3, -⟩ := t2.strs hL hw (g := gW) (by kernel_rfl) (by decide) (by kernel_rfl) Tryd.underlying23 Tryd.underlying9 (by kernel_rfl) (by simp [wordsT])
  refine ⟨_, _, t3.im, t3.glob, t3.len, fun T => ⟨⟨0, (1, 1), ?_⟩, ⟨_, [_], 0, (1, 1), ?_, SlR.lit (j := gE + 1) (c := wordsT.map fun l => Value.string ⟨⟨l⟩⟩) (e := 0) (f := (1, 1)) (o := false) (G := []) ?_ (rep_strs (by simp [wordsT, okS])) (by simp [wordsT]) (fun h => by cases h)⟩, u, 0, (1, 1), ?_⟩⟩
  · rw [List.append_assoc, List.getElem?_append_left (by simp [g10, gE]), List.getElem?_set_ne (by simp [gW, g10]), List.getElem?_set_ne (by simp [gE, g10]), List.getElem?_set_self (by simp [g10, gE])]
  · rw [List.append_assoc, List.getElem?_append_left (by simp [gW, gE]), List.getElem?_set_self (by simp [gW, gE])]
    simp
  · rw [List.append_assoc, List.getElem?_append_right (by simp)]
    simp
  · rw [List.append_assoc, List.getElem?_append_left (by simp [gE]), List.getElem?_set_ne (by simp [gW, gE]), List.getElem?_set_self (by simp [gE])]
end Go.Proofs.YtbigpkfdeaigeaaDoor

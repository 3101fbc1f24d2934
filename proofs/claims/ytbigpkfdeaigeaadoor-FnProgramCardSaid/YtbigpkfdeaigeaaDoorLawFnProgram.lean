/- FnProgram: its row and its card. -/
import Derived.Test.YtbigpkfdeaigeaaDoorCards
import Derived.Test.YtbigpkfdeaigeaaDoorTie
import Derived.Test.YtbigpkfdeaigeaaDoorWFnProgram
import Derived.Test.YtbigpkfdeaigeaaDoorLaiE
import Derived.Test.YtbigpkfdeaigeaaDoorAm32
import Derived.Test.YtbigpkfdeaigeaaDoorRdB
import Derived.Deep.DeepWitnessRowRef
import Derived.Lib.LaidTab
namespace Go.Proofs.YtbigpkfdeaigeaaDoor.fnProgram
open Go Go.Am Go.Proofs.YtbigpkfdeaigeaaDoor
set_option linter.unusedVariables false
theorem own : ownKnob Tryd.prog.godebug = none := by kernel_rfl
theorem mem10 : ("internal/strconv.uint64pow10", pow10D) ∈ Rows.fnProgramRow.laid := List.mem_of_getElem? (i := 2) (by kernel_rfl)
theorem memW : ("loop.example/kilndeed/impl.words", wordsD) ∈ Rows.fnProgramRow.laid := List.mem_of_getElem? (i := 5) (by kernel_rfl)
theorem memE : ("strconv.ErrSyntax", errD) ∈ Rows.fnProgramRow.laid := List.mem_of_getElem? (i := 4) (by kernel_rfl)
theorem whole_some {α β γ : Type} {x : Option (α × β × γ)} {a : α} {b : β} (h : x.map (fun r => (r.1, r.2.1)) = some (a, b)) : ∃ c, x = some (a, b, c) := by
  match x, h with
  | some (_, _, c), rfl => exact ⟨c, rfl⟩
theorem laid_met (os : Os) : laidMet Tryd.prog Rows.fnProgramRow.laid ((laidWorldX Tryd.prog os 9 123 125 Rows.fnProgramRow.laid).forCall (fun _ _ => 0) ⟨#[], #[.slice none 0 0], []⟩).memory :=
  laidMet_of_run' 8 (by kernel_rfl) (by kernel_rfl)
theorem reads (os : Os) {H : Type} (enc : TypeId × Value → H) : ∃ places, DataW.whole enc Tryd.prog ((laidWorldX Tryd.prog os 9 123 125 Rows.fnProgramRow.laid).forCall (fun _ _ => 0) ⟨#[], #[.slice none 0 0], []⟩).memory Tryd.f4.params.toList Rows.fnProgramSpec.vars false #[.slice none 0 0].toList 8 = some ([.nil], [.slice (wordsT.map fun l => .lit (.string l)) []], places) :=
  whole_some (by kernel_rfl)
set_option maxRecDepth 100000 in
theorem lifted (os : Os) (started : os.Started) (H : Type) (enc : TypeId × Value → H) (F : Stop.Interp) :
    ReturnsInHanded {} Tryd.checked os 4 .any ((OpenSpec.ofChange Rows.fnProgramSpec).preRow enc Tryd.prog Tryd.f4 Rows.fnProgramRow.domain false Rows.fnProgramRow.laid) (((OpenSpec.ofChange Rows.fnProgramSpec).at F).post enc Tryd.prog Tryd.f4 false true false false) := by
  obtain ⟨places, hx⟩ := reads os enc
  refine returnsInHanded_of_row (C := Tryd.checked) (s := OpenSpec.ofChange Rows.fnProgramSpec) own started (by kernel_rfl) Tryd.func4
    (witness_row_atRef (enc := enc) (C := Tryd.checked) false (laidWorldX Tryd.prog os 9 123 125 Rows.fnProgramRow.laid) #[.slice none 0 0] rfl (by kernel_rfl) (by kernel_rfl) (by kernel_rfl)
      (OpenSpec.preRow_of_cond 8 hx (by kernel_rfl) (fun k hk => by cases hk) (by kernel_rfl) (laid_met os))) ?_
  intro W base args ds gs before hval hW _ _ hsz hL _ _
  exact law_contract_vars (P := Tryd.prog) (s := Rows.fnProgramSpec) (fn := Tryd.f4) (tb := 4) (R := c1A (BytesR false) nilA) (ng := (gE + 1)) (GP := (fun S => P10 g10 S ∧ WordsG gW S ∧ ErrG gE S)) (L := fun W => laidMetH Tryd.prog Rows.fnProgramRow.laid W) (by kernel_rfl)
    (fun ds gs hd hg => match ds, gs, hd, hg with | [d0], [g0], _, _ => ⟨rfl, rfl, rfl⟩) (by kernel_rfl) und4 (by kernel_rfl) (by kernel_rfl)
    (fun W hL => laidE hL (by kernel_rfl) mem10 memW memE)
    (show RdA _ [_] _ from RdA.cons1 rd_bytes (fun W base v h => by obtain ⟨_, _, _, rfl⟩ := WideShapes.okWide_slice und22 h; rfl) RdA.nil)
    (by
      rintro S ⟨x0, _⟩ vs hG ⟨v0, F0, _, rfl, h0, rfl⟩
      exact fnProgram_ac h0 hG.2.2 hG.2.1 hG.1 (by decide) (by decide) (Nat.lt_succ_self _)) W base args ds gs before hval hW hsz hL
theorem k8 : (Rows.fnProgramRow.inPlace == Tryd.prog.inPlace 4) = true := by kernel_rfl
theorem k9 : (Rows.fnProgramRow.unfollowed == Tryd.prog.unfollowed 4) = true := by kernel_rfl
theorem k10 : (Rows.fnProgramRow.recurses == Tryd.prog.recurses 4) = true := by kernel_rfl
theorem k11 : (Rows.fnProgramRow.named == Tryd.prog.varsNamed 4) = true := by kernel_rfl
theorem k12 : Tryd.prog.stopsHeard = true := by kernel_rfl
theorem k13 : Tryd.prog.mayEnter = true := by kernel_rfl
theorem k14 : (Rows.fnProgramRow.lifted == Tryd.prog.liftsFinal) = true := by kernel_rfl
theorem facts : joinedFacts Tryd.prog 4 Tryd.f4 Rows.fnProgramSpec Rows.fnProgramRow = true := by
  unfold joinedFacts
  rw [k8, k9, k10, k11, k12, k13, k14]
  kernel_rfl
theorem named : Tryd.prog.funcNamed Rows.fnProgramRow.func = some 4 := by kernel_rfl
set_option maxRecDepth 100000 in
theorem said : Rows.FnProgramSaid :=
  OpenClaim.holds_of_cond 4 Tryd.f4 rfl rfl rfl rfl rfl rfl rfl ⟨rfl, rfl, rfl, rfl, rfl⟩ rfl rfl rfl rfl rfl named Tryd.func4 facts
    (of_decide_eq_true (by kernel_rfl)) (by unfold Func.isWrapper; first | (rw [if_pos (by decide +kernel)]; kernel_rfl) | (rw [if_neg (by decide +kernel)]; exact ⟨rfl, rfl⟩))
    (fun os started H enc _ F => by rw [OpenClaim.pre_eq_preRow]; exact lifted os started H enc F)
/-- No parameter wants a stand-in; the program's own looks are off: what the card asks. -/
theorem plain (f : FuncId) (fn : Func) (hf : Tryd.pinned.checked.prog.funcNamed "loop.example/kilndeed/laws.FnProgram" = some f) (hfn : Tryd.pinned.checked.prog.funcs[f]? = some fn) :
    true = Tryd.pinned.checked.prog.looks [] ∧ ∀ (j : Nat) t, fn.params[j]? = some t → Tryd.pinned.checked.prog.wantsStandIn t = false := by
  obtain rfl : f = 4 := Option.some.inj ((show Tryd.prog.funcNamed "loop.example/kilndeed/laws.FnProgram" = some 4 by kernel_rfl).symm.trans hf) |>.symm
  obtain rfl : fn = Tryd.f4 := (Option.some.inj (Tryd.func4.symm.trans hfn)).symm
  refine ⟨by kernel_rfl, fun j t ht => ?_⟩
  have hall : Tryd.f4.params.all (fun t => Tryd.prog.wantsStandIn t == false) = true := by kernel_rfl
  exact eq_of_beq ((Array.all_eq_true_iff_forall_mem.1 hall) t (Array.mem_of_getElem? ht))
theorem card : Rows.FnProgramCardSaid :=
  Claim7.holds_tied_plain_at .later [] _ _ _ _ said (fun _ h => by cases h) (by kernel_rfl) (fun _ h => by cases h) fnProgram_row_tie rfl ⟨rfl, rfl⟩ (by kernel_rfl) rfl plain (by kernel_rfl)
#print axioms card
end Go.Proofs.YtbigpkfdeaigeaaDoor.fnProgram
namespace Go.Proofs.YtbigpkfdeaigeaaDoor
/-- The card, under a short name, for the claim. -/
theorem fnProgram_holds : Rows.FnProgramCardSaid := fnProgram.card
end Go.Proofs.YtbigpkfdeaigeaaDoor

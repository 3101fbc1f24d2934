/- FnExactParseProgram: its row and its card. -/
import Derived.Test.YtephpieeibcihaaDoorCards
import Derived.Test.YtephpieeibcihaaDoorTie
import Derived.Test.YtephpieeibcihaaDoorWFnExactParseProgram
import Derived.Test.YtephpieeibcihaaDoorLaiE
import Derived.Test.YtephpieeibcihaaDoorAm32
import Derived.Test.YtephpieeibcihaaDoorRd
import Derived.Deep.DeepWitnessRowRef
import Derived.Lib.LaidTab
namespace Go.Proofs.YtephpieeibcihaaDoor.fnExactParseProgram
open Go Go.Am Go.Proofs.YtephpieeibcihaaDoor
set_option linter.unusedVariables false
theorem own : ownKnob Tryd.prog.godebug = none := by kernel_rfl
theorem mem10 : ("internal/strconv.uint64pow10", pow10D) ∈ Rows.fnExactParseProgramRow.laid := List.mem_of_getElem? (i := 2) (by kernel_rfl)
theorem memW : ("loop.example/kilndeed/impl.words", wordsD) ∈ Rows.fnExactParseProgramRow.laid := List.mem_of_getElem? (i := 5) (by kernel_rfl)
theorem memE : ("strconv.ErrSyntax", errD) ∈ Rows.fnExactParseProgramRow.laid := List.mem_of_getElem? (i := 4) (by kernel_rfl)
theorem whole_some {α β γ : Type} {x : Option (α × β × γ)} {a : α} {b : β} (h : x.map (fun r => (r.1, r.2.1)) = some (a, b)) : ∃ c, x = some (a, b, c) := by
  match x, h with
  | some (_, _, c), rfl => exact ⟨c, rfl⟩
theorem laid_met (os : Os) : laidMet Tryd.prog Rows.fnExactParseProgramRow.laid ((laidWorldX Tryd.prog os 9 221 223 Rows.fnExactParseProgramRow.laid).forCall (fun _ _ => 0) ⟨#[], #[.string ⟨#[]⟩], []⟩).memory :=
  laidMet_of_run' 8 (by kernel_rfl) (by kernel_rfl)
theorem reads (os : Os) {H : Type} (enc : TypeId × Value → H) : ∃ places, DataW.whole enc Tryd.prog ((laidWorldX Tryd.prog os 9 221 223 Rows.fnExactParseProgramRow.laid).forCall (fun _ _ => 0) ⟨#[], #[.string ⟨#[]⟩], []⟩).memory Tryd.f3.params.toList Rows.fnExactParseProgramSpec.vars false #[.string ⟨#[]⟩].toList 8 = some ([.lit (.string [])], [.slice (wordsT.map fun l => .lit (.string l)) []], places) :=
  whole_some (by kernel_rfl)
set_option maxRecDepth 100000 in
theorem lifted (os : Os) (started : os.Started) (H : Type) (enc : TypeId × Value → H) (F : Stop.Interp) :
    ReturnsInHanded {} Tryd.checked os 3 .any ((OpenSpec.ofChange Rows.fnExactParseProgramSpec).preRow enc Tryd.prog Tryd.f3 Rows.fnExactParseProgramRow.domain false Rows.fnExactParseProgramRow.laid) (((OpenSpec.ofChange Rows.fnExactParseProgramSpec).at F).post enc Tryd.prog Tryd.f3 false true false false) := by
  obtain ⟨places, hx⟩ := reads os enc
  refine returnsInHanded_of_row (C := Tryd.checked) (s := OpenSpec.ofChange Rows.fnExactParseProgramSpec) own started (by kernel_rfl) Tryd.func3
    (witness_row_atRef (enc := enc) (C := Tryd.checked) false (laidWorldX Tryd.prog os 9 221 223 Rows.fnExactParseProgramRow.laid) #[.string ⟨#[]⟩] rfl (by kernel_rfl) (by kernel_rfl) (by kernel_rfl)
      (OpenSpec.preRow_of_cond 8 hx (by kernel_rfl) (fun k hk => by cases hk) (by kernel_rfl) (laid_met os))) ?_
  intro W base args ds gs before hval hW _ _ hsz hL _ _
  exact law_contract_vars (P := Tryd.prog) (s := Rows.fnExactParseProgramSpec) (fn := Tryd.f3) (tb := 4) (R := c1A sstrR nilA) (ng := (gE + 1)) (GP := (fun S => P10 g10 S ∧ WordsG gW S ∧ ErrG gE S)) (L := fun W => laidMetH Tryd.prog Rows.fnExactParseProgramRow.laid W) (by kernel_rfl)
    (fun ds gs hd hg => match ds, gs, hd, hg with | [d0], [g0], _, _ => ⟨rfl, rfl, rfl⟩) (by kernel_rfl) und4 (by kernel_rfl) (by kernel_rfl)
    (fun W hL => laidE hL (by kernel_rfl) mem10 memW memE)
    (show RdA _ [_] _ from RdA.cons1 (Rd.str und9) (fun W base v h => by obtain ⟨s, rfl⟩ := WideShapes.okWide_string und9 h; rfl) RdA.nil)
    (by
      rintro S ⟨x0, _⟩ vs hG ⟨v0, F0, _, rfl, ⟨hv0, rfl, h0⟩, rfl⟩
      obtain rfl : v0 = str x0 := by simpa using hv0
      exact fnExactParseProgram_ac h0 hG.2.2 hG.2.1 hG.1 (by decide) (by decide) (Nat.lt_succ_self _)) W base args ds gs before hval hW hsz hL
theorem said : Rows.FnExactParseProgramSaid :=
  OpenClaim.holds_of_cond 3 Tryd.f3 rfl rfl rfl rfl rfl rfl rfl ⟨rfl, rfl, rfl, rfl, rfl⟩ rfl rfl rfl rfl rfl (by kernel_rfl) Tryd.func3 (by kernel_rfl)
    (of_decide_eq_true (by kernel_rfl)) (by unfold Func.isWrapper; first | (rw [if_pos (by decide +kernel)]; kernel_rfl) | (rw [if_neg (by decide +kernel)]; exact ⟨rfl, rfl⟩))
    (fun os started H enc _ F => by rw [OpenClaim.pre_eq_preRow]; exact lifted os started H enc F)
/-- No parameter wants a stand-in; the program's own looks are off: what the card asks. -/
theorem plain (f : FuncId) (fn : Func) (hf : Tryd.pinned.checked.prog.funcNamed "loop.example/kilndeed/laws.FnExactParseProgram" = some f) (hfn : Tryd.pinned.checked.prog.funcs[f]? = some fn) :
    true = Tryd.pinned.checked.prog.looks [] ∧ ∀ (j : Nat) t, fn.params[j]? = some t → Tryd.pinned.checked.prog.wantsStandIn t = false := by
  obtain rfl : f = 3 := Option.some.inj ((show Tryd.prog.funcNamed "loop.example/kilndeed/laws.FnExactParseProgram" = some 3 by kernel_rfl).symm.trans hf) |>.symm
  obtain rfl : fn = Tryd.f3 := (Option.some.inj (Tryd.func3.symm.trans hfn)).symm
  refine ⟨by kernel_rfl, fun j t ht => ?_⟩
  have hall : Tryd.f3.params.all (fun t => Tryd.prog.wantsStandIn t == false) = true := by kernel_rfl
  exact eq_of_beq ((Array.all_eq_true_iff_forall_mem.1 hall) t (Array.mem_of_getElem? ht))
theorem card : Rows.FnExactParseProgramCardSaid :=
  Claim7.holds_tied_plain_at .later [] _ _ _ _ said (fun _ h => by cases h) (by kernel_rfl) (fun _ h => by cases h) fnExactParseProgram_row_tie rfl ⟨rfl, rfl⟩ (by kernel_rfl) rfl plain (by kernel_rfl)
#print axioms card
end Go.Proofs.YtephpieeibcihaaDoor.fnExactParseProgram
namespace Go.Proofs.YtephpieeibcihaaDoor
/-- The card, under a short name, for the claim. -/
theorem fnExactParseProgram_holds : Rows.FnExactParseProgramCardSaid := fnExactParseProgram.card
end Go.Proofs.YtephpieeibcihaaDoor

/- FnExactFormResult: its row and its card. -/
import Derived.Test.YtiimabmdokpmbaaDoorCards
import Derived.Test.YtiimabmdokpmbaaDoorTie
import Derived.Test.YtiimabmdokpmbaaDoorForm
import Derived.Test.YtiimabmdokpmbaaDoorRdR
import Derived.Deep.DeepHandedRow
import Derived.Lib.LaidTab
namespace Go.Proofs.YtiimabmdokpmbaaDoor.fnExactFormResult
open Go Go.Am Go.Proofs.YtiimabmdokpmbaaDoor
set_option linter.unusedVariables false
theorem own : ownKnob Tryd.prog.godebug = none := by kernel_rfl
theorem laid_met (os : Os) : laidMet Tryd.prog Rows.fnExactFormResultRow.laid ((laidWorld Tryd.prog os Rows.fnExactFormResultRow.laid).forCall (fun _ _ => 0) ⟨#[], #[.agg #[.int .i64 0, .string ⟨#[]⟩, .slice none 0 0]], []⟩).memory :=
  laidMet_of_run' 8 (by kernel_rfl) (by kernel_rfl)
theorem reads (os : Os) {H : Type} (enc : TypeId × Value → H) : ∃ places, DataW.whole enc Tryd.prog ((laidWorld Tryd.prog os Rows.fnExactFormResultRow.laid).forCall (fun _ _ => 0) ⟨#[], #[.agg #[.int .i64 0, .string ⟨#[]⟩, .slice none 0 0]], []⟩).memory Tryd.f3.params.toList Rows.fnExactFormResultSpec.vars false #[.agg #[.int .i64 0, .string ⟨#[]⟩, .slice none 0 0]].toList 8 = some ([.agg [.lit (.int .i64 0), .lit (.string []), .nil]], [], places) :=
  ⟨[], by kernel_rfl⟩
set_option maxRecDepth 100000 in
theorem lifted (os : Os) (started : os.Started) (H : Type) (enc : TypeId × Value → H) (F : Stop.Interp) :
    ReturnsInHanded {} Tryd.checked os 3 .any ((OpenSpec.ofChange Rows.fnExactFormResultSpec).preRow enc Tryd.prog Tryd.f3 Rows.fnExactFormResultRow.domain false Rows.fnExactFormResultRow.laid) (((OpenSpec.ofChange Rows.fnExactFormResultSpec).at F).post enc Tryd.prog Tryd.f3 false true false false) := by
  obtain ⟨places, hx⟩ := reads os enc
  refine returnsInHanded_of_row (C := Tryd.checked) (s := OpenSpec.ofChange Rows.fnExactFormResultSpec) own started (by kernel_rfl) Tryd.func3
    (witness_row_at (enc := enc) (C := Tryd.checked) false (laidWorld Tryd.prog os Rows.fnExactFormResultRow.laid) #[.agg #[.int .i64 0, .string ⟨#[]⟩, .slice none 0 0]] rfl (by kernel_rfl) (by kernel_rfl) (by kernel_rfl)
      (OpenSpec.preRow_of_cond 8 hx (by kernel_rfl) (fun k hk => by cases hk) (by kernel_rfl) (laid_met os))) ?_
  intro W base args ds gs before hval hW _ _ hsz hL _ _
  exact law_contract (P := Tryd.prog) (s := Rows.fnExactFormResultSpec) (fn := Tryd.f3) (tb := 4) (R := csA (ResOkR false) nilA) rfl
    (fun ds hd => match ds, hd with | [d], _ => ⟨rfl, rfl, rfl⟩) (by kernel_rfl) und4 (by kernel_rfl) (by kernel_rfl)
    (show RdA _ [_] _ from RdA.consS und24 rd_result RdA.nil)
    (by rintro S ⟨x, _⟩ vs ⟨c, F, _, rfl, ⟨h, hx⟩, rfl⟩; exact fnExactFormResult_ac h hx) W base args ds gs before hval hW hsz
theorem said : Rows.FnExactFormResultSaid :=
  OpenClaim.holds_of_cond 3 Tryd.f3 rfl rfl rfl rfl rfl rfl rfl ⟨rfl, rfl, rfl, rfl, rfl⟩ rfl rfl rfl rfl rfl (by kernel_rfl) Tryd.func3 (by kernel_rfl)
    (of_decide_eq_true (by kernel_rfl)) (by unfold Func.isWrapper; first | (rw [if_pos (by decide +kernel)]; kernel_rfl) | (rw [if_neg (by decide +kernel)]; exact ⟨rfl, rfl⟩))
    (fun os started H enc _ F => by rw [OpenClaim.pre_eq_preRow]; exact lifted os started H enc F)
/-- No parameter wants a stand-in; the program's own looks are off: what the card asks. -/
theorem plain (f : FuncId) (fn : Func) (hf : Tryd.pinned.checked.prog.funcNamed "loop.example/kilndeed/laws.FnExactFormResult" = some f) (hfn : Tryd.pinned.checked.prog.funcs[f]? = some fn) :
    false = Tryd.pinned.checked.prog.looks [] ∧ ∀ (j : Nat) t, fn.params[j]? = some t → Tryd.pinned.checked.prog.wantsStandIn t = false := by
  obtain rfl : f = 3 := Option.some.inj ((show Tryd.prog.funcNamed "loop.example/kilndeed/laws.FnExactFormResult" = some 3 by kernel_rfl).symm.trans hf) |>.symm
  obtain rfl : fn = Tryd.f3 := (Option.some.inj (Tryd.func3.symm.trans hfn)).symm
  refine ⟨by kernel_rfl, fun j t ht => ?_⟩
  have hall : Tryd.f3.params.all (fun t => Tryd.prog.wantsStandIn t == false) = true := by kernel_rfl
  exact eq_of_beq ((Array.all_eq_true_iff_forall_mem.1 hall) t (Array.mem_of_getElem? ht))
theorem card : Rows.FnExactFormResultCardSaid :=
  Claim7.holds_tied_plain_at .later [] _ _ _ _ said (fun _ h => by cases h) (by kernel_rfl) (fun _ h => by cases h) fnExactFormResult_row_tie rfl ⟨rfl, rfl⟩ (by kernel_rfl) rfl plain (by kernel_rfl)
#print axioms card
end Go.Proofs.YtiimabmdokpmbaaDoor.fnExactFormResult
namespace Go.Proofs.YtiimabmdokpmbaaDoor
/-- The card, under a short name, for the claim. -/
theorem fnExactFormResult_holds : Rows.FnExactFormResultCardSaid := fnExactFormResult.card
end Go.Proofs.YtiimabmdokpmbaaDoor

/- FnExactFormAccount: its row and its card. -/
import Derived.Test.YtehhjbomdohgoaaDoorCards
import Derived.Test.YtehhjbomdohgoaaDoorTie
import Derived.Test.YtehhjbomdohgoaaDoorWFnExactFormAccount
import Derived.Test.YtehhjbomdohgoaaDoorLai
import Derived.Test.YtehhjbomdohgoaaDoorAm32
import Derived.Test.YtehhjbomdohgoaaDoorRd2
import Derived.Deep.DeepWitnessRowRef
import Derived.Lib.LaidTab
namespace Go.Proofs.YtehhjbomdohgoaaDoor.fnExactFormAccount
open Go Go.Am Go.Proofs.YtehhjbomdohgoaaDoor
set_option linter.unusedVariables false
theorem own : ownKnob Tryd.prog.godebug = none := by kernel_rfl
theorem mem10 : ("internal/strconv.uint64pow10", pow10D) ∈ Rows.fnExactFormAccountRow.laid := List.mem_of_getElem? (i := 2) (by kernel_rfl)
theorem memW : ("loop.example/kilndeed/impl.words", wordsD) ∈ Rows.fnExactFormAccountRow.laid := List.mem_of_getElem? (i := 3) (by kernel_rfl)
theorem whole_some {α β γ : Type} {x : Option (α × β × γ)} {a : α} {b : β} (h : x.map (fun r => (r.1, r.2.1)) = some (a, b)) : ∃ c, x = some (a, b, c) := by
  match x, h with
  | some (_, _, c), rfl => exact ⟨c, rfl⟩
theorem laid_met (os : Os) : laidMet Tryd.prog Rows.fnExactFormAccountRow.laid ((laidWorldX Tryd.prog os 9 0 0 Rows.fnExactFormAccountRow.laid).forCall (fun _ _ => 0) ⟨#[], #[.agg #[.slice none 0 0]], []⟩).memory :=
  laidMet_of_run' 8 (by kernel_rfl) (by kernel_rfl)
theorem reads (os : Os) {H : Type} (enc : TypeId × Value → H) : ∃ places, DataW.whole enc Tryd.prog ((laidWorldX Tryd.prog os 9 0 0 Rows.fnExactFormAccountRow.laid).forCall (fun _ _ => 0) ⟨#[], #[.agg #[.slice none 0 0]], []⟩).memory Tryd.f6.params.toList Rows.fnExactFormAccountSpec.vars false #[.agg #[.slice none 0 0]].toList 8 = some ([.agg [.nil]], [.slice (wordsT.map fun l => .lit (.string l)) []], places) :=
  whole_some (by kernel_rfl)
set_option maxRecDepth 100000 in
theorem lifted (os : Os) (started : os.Started) (H : Type) (enc : TypeId × Value → H) (F : Stop.Interp) :
    ReturnsInHanded {} Tryd.checked os 6 .any ((OpenSpec.ofChange Rows.fnExactFormAccountSpec).preRow enc Tryd.prog Tryd.f6 Rows.fnExactFormAccountRow.domain false Rows.fnExactFormAccountRow.laid) (((OpenSpec.ofChange Rows.fnExactFormAccountSpec).at F).post enc Tryd.prog Tryd.f6 false true false false) := by
  obtain ⟨places, hx⟩ := reads os enc
  refine returnsInHanded_of_row (C := Tryd.checked) (s := OpenSpec.ofChange Rows.fnExactFormAccountSpec) own started (by kernel_rfl) Tryd.func6
    (witness_row_atRef (enc := enc) (C := Tryd.checked) false (laidWorldX Tryd.prog os 9 0 0 Rows.fnExactFormAccountRow.laid) #[.agg #[.slice none 0 0]] rfl (by kernel_rfl) (by kernel_rfl) (by kernel_rfl)
      (OpenSpec.preRow_of_cond 8 hx (by kernel_rfl) (fun k hk => by cases hk) (by kernel_rfl) (laid_met os))) ?_
  intro W base args ds gs before hval hW _ _ hsz hL _ _
  exact law_contract_vars (P := Tryd.prog) (s := Rows.fnExactFormAccountSpec) (fn := Tryd.f6) (tb := 4) (R := csA (DeedsR false) nilA) (ng := (g10 + 1)) (GP := (fun S => P10 g10 S ∧ WordsG gW S)) (L := fun W => laidMetH Tryd.prog Rows.fnExactFormAccountRow.laid W) (by kernel_rfl)
    (fun ds gs hd hg => match ds, gs, hd, hg with | [d0], [g0], _, _ => ⟨rfl, rfl, rfl⟩) (by kernel_rfl) und4 (by kernel_rfl) (by kernel_rfl)
    (fun W hL => laidW hL (by kernel_rfl) mem10 memW)
    (show RdA _ [_] _ from RdA.consS und56 rd_account RdA.nil)
    (by
      rintro S ⟨x0, _⟩ vs hG ⟨c0, F0, _, rfl, h0, rfl⟩
      obtain ⟨s0, rfl⟩ := List.length_eq_one_iff.1 (Rp.len h0)
      exact fnExactFormAccount_ac h0 hG.2 hG.1 (by simp [gW, g10]) (Nat.lt_succ_self _)) W base args ds gs before hval hW hsz hL
theorem said : Rows.FnExactFormAccountSaid :=
  OpenClaim.holds_of_cond 6 Tryd.f6 rfl rfl rfl rfl rfl rfl rfl ⟨rfl, rfl, rfl, rfl, rfl⟩ rfl rfl rfl rfl rfl (by kernel_rfl) Tryd.func6 (by kernel_rfl)
    (of_decide_eq_true (by kernel_rfl)) (by unfold Func.isWrapper; first | (rw [if_pos (by decide +kernel)]; kernel_rfl) | (rw [if_neg (by decide +kernel)]; exact ⟨rfl, rfl⟩))
    (fun os started H enc _ F => by rw [OpenClaim.pre_eq_preRow]; exact lifted os started H enc F)
/-- No parameter wants a stand-in; the program's own looks are off: what the card asks. -/
theorem plain (f : FuncId) (fn : Func) (hf : Tryd.pinned.checked.prog.funcNamed "loop.example/kilndeed/laws.FnExactFormAccount" = some f) (hfn : Tryd.pinned.checked.prog.funcs[f]? = some fn) :
    true = Tryd.pinned.checked.prog.looks [] ∧ ∀ (j : Nat) t, fn.params[j]? = some t → Tryd.pinned.checked.prog.wantsStandIn t = false := by
  obtain rfl : f = 6 := Option.some.inj ((show Tryd.prog.funcNamed "loop.example/kilndeed/laws.FnExactFormAccount" = some 6 by kernel_rfl).symm.trans hf) |>.symm
  obtain rfl : fn = Tryd.f6 := (Option.some.inj (Tryd.func6.symm.trans hfn)).symm
  refine ⟨by kernel_rfl, fun j t ht => ?_⟩
  have hall : Tryd.f6.params.all (fun t => Tryd.prog.wantsStandIn t == false) = true := by kernel_rfl
  exact eq_of_beq ((Array.all_eq_true_iff_forall_mem.1 hall) t (Array.mem_of_getElem? ht))
theorem card : Rows.FnExactFormAccountCardSaid :=
  Claim7.holds_tied_plain_at .later [] _ _ _ _ said (fun _ h => by cases h) (by kernel_rfl) (fun _ h => by cases h) fnExactFormAccount_row_tie rfl ⟨rfl, rfl⟩ (by kernel_rfl) rfl plain (by kernel_rfl)
#print axioms card
end Go.Proofs.YtehhjbomdohgoaaDoor.fnExactFormAccount
namespace Go.Proofs.YtehhjbomdohgoaaDoor
/-- The card, under a short name, for the claim. -/
theorem fnExactFormAccount_holds : Rows.FnExactFormAccountCardSaid := fnExactFormAccount.card
end Go.Proofs.YtehhjbomdohgoaaDoor

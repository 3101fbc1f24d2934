/- FnExactFollows: its row and its card. -/
import Derived.Test.YtephpieeibcihaaDoorCards
import Derived.Test.YtephpieeibcihaaDoorTie
import Derived.Test.YtephpieeibcihaaDoorWFnExactFollows
import Derived.Test.YtephpieeibcihaaDoorLai
import Derived.Test.YtephpieeibcihaaDoorAm32
import Derived.Test.YtephpieeibcihaaDoorRd2
import Derived.Deep.DeepWitnessRowRef
import Derived.Lib.LaidTab
namespace Go.Proofs.YtephpieeibcihaaDoor.fnExactFollows
open Go Go.Am Go.Proofs.YtephpieeibcihaaDoor
set_option linter.unusedVariables false
theorem own : ownKnob Tryd.prog.godebug = none := by kernel_rfl
theorem mem10 : ("internal/strconv.uint64pow10", pow10D) ∈ Rows.fnExactFollowsRow.laid := List.mem_of_getElem? (i := 2) (by kernel_rfl)
theorem whole_some {α β γ : Type} {x : Option (α × β × γ)} {a : α} {b : β} (h : x.map (fun r => (r.1, r.2.1)) = some (a, b)) : ∃ c, x = some (a, b, c) := by
  match x, h with
  | some (_, _, c), rfl => exact ⟨c, rfl⟩
theorem laid_met (os : Os) : laidMet Tryd.prog Rows.fnExactFollowsRow.laid ((laidWorldX Tryd.prog os 9 0 0 Rows.fnExactFollowsRow.laid).forCall (fun _ _ => 0) ⟨#[], #[.agg #[.slice none 0 0]], []⟩).memory :=
  laidMet_of_run' 8 (by kernel_rfl) (by kernel_rfl)
theorem reads (os : Os) {H : Type} (enc : TypeId × Value → H) : ∃ places, DataW.whole enc Tryd.prog ((laidWorldX Tryd.prog os 9 0 0 Rows.fnExactFollowsRow.laid).forCall (fun _ _ => 0) ⟨#[], #[.agg #[.slice none 0 0]], []⟩).memory Tryd.f6.params.toList Rows.fnExactFollowsSpec.vars false #[.agg #[.slice none 0 0]].toList 8 = some ([.agg [.nil]], [], places) :=
  whole_some (by kernel_rfl)
set_option maxRecDepth 100000 in
theorem lifted (os : Os) (started : os.Started) (H : Type) (enc : TypeId × Value → H) (F : Stop.Interp) :
    ReturnsInHanded {} Tryd.checked os 6 .any ((OpenSpec.ofChange Rows.fnExactFollowsSpec).preRow enc Tryd.prog Tryd.f6 Rows.fnExactFollowsRow.domain false Rows.fnExactFollowsRow.laid) (((OpenSpec.ofChange Rows.fnExactFollowsSpec).at F).post enc Tryd.prog Tryd.f6 false true false false) := by
  obtain ⟨places, hx⟩ := reads os enc
  refine returnsInHanded_of_row (C := Tryd.checked) (s := OpenSpec.ofChange Rows.fnExactFollowsSpec) own started (by kernel_rfl) Tryd.func6
    (witness_row_at (enc := enc) (C := Tryd.checked) false (laidWorldX Tryd.prog os 9 0 0 Rows.fnExactFollowsRow.laid) #[.agg #[.slice none 0 0]] rfl (by kernel_rfl) (by kernel_rfl) (by kernel_rfl)
      (OpenSpec.preRow_of_cond 8 hx (by kernel_rfl) (fun k hk => by cases hk) (by kernel_rfl) (laid_met os))) ?_
  intro W base args ds gs before hval hW _ _ hsz hL _ _
  exact law_contract_vars (P := Tryd.prog) (s := Rows.fnExactFollowsSpec) (fn := Tryd.f6) (tb := 4) (R := csA (DeedsR false) nilA) (ng := (g10 + 1)) (GP := (fun S => P10 g10 S)) (L := fun W => laidMetH Tryd.prog Rows.fnExactFollowsRow.laid W) (by kernel_rfl)
    (fun ds gs hd hg => match ds, gs, hd, hg with | [d0], [], _, _ => ⟨rfl, rfl, rfl⟩) (by kernel_rfl) und4 (by kernel_rfl) (by kernel_rfl)
    (fun W hL => laid10 hL (by kernel_rfl) mem10)
    (show RdA _ [_] _ from RdA.consS und40 rd_account RdA.nil)
    (by
      rintro S ⟨x0, _⟩ vs hG ⟨c0, F0, _, rfl, h0, rfl⟩
      obtain ⟨s0, rfl⟩ := List.length_eq_one_iff.1 (Rp.len h0)
      exact fnExactFollows_ac h0 hG (Nat.lt_succ_self _)) W base args ds gs before hval hW hsz hL
theorem said : Rows.FnExactFollowsSaid :=
  OpenClaim.holds_of_cond 6 Tryd.f6 rfl rfl rfl rfl rfl rfl rfl ⟨rfl, rfl, rfl, rfl, rfl⟩ rfl rfl rfl rfl rfl (by kernel_rfl) Tryd.func6 (by kernel_rfl)
    (of_decide_eq_true (by kernel_rfl)) (by unfold Func.isWrapper; first | (rw [if_pos (by decide +kernel)]; kernel_rfl) | (rw [if_neg (by decide +kernel)]; exact ⟨rfl, rfl⟩))
    (fun os started H enc _ F => by rw [OpenClaim.pre_eq_preRow]; exact lifted os started H enc F)
/-- No parameter wants a stand-in; the program's own looks are off: what the card asks. -/
theorem plain (f : FuncId) (fn : Func) (hf : Tryd.pinned.checked.prog.funcNamed "loop.example/kilndeed/laws.FnExactFollows" = some f) (hfn : Tryd.pinned.checked.prog.funcs[f]? = some fn) :
    true = Tryd.pinned.checked.prog.looks [] ∧ ∀ (j : Nat) t, fn.params[j]? = some t → Tryd.pinned.checked.prog.wantsStandIn t = false := by
  obtain rfl : f = 6 := Option.some.inj ((show Tryd.prog.funcNamed "loop.example/kilndeed/laws.FnExactFollows" = some 6 by kernel_rfl).symm.trans hf) |>.symm
  obtain rfl : fn = Tryd.f6 := (Option.some.inj (Tryd.func6.symm.trans hfn)).symm
  refine ⟨by kernel_rfl, fun j t ht => ?_⟩
  have hall : Tryd.f6.params.all (fun t => Tryd.prog.wantsStandIn t == false) = true := by kernel_rfl
  exact eq_of_beq ((Array.all_eq_true_iff_forall_mem.1 hall) t (Array.mem_of_getElem? ht))
theorem card : Rows.FnExactFollowsCardSaid :=
  Claim7.holds_tied_plain_at .later [] _ _ _ _ said (fun _ h => by cases h) (by kernel_rfl) (fun _ h => by cases h) fnExactFollows_row_tie rfl ⟨rfl, rfl⟩ (by kernel_rfl) rfl plain (by kernel_rfl)
#print axioms card
end Go.Proofs.YtephpieeibcihaaDoor.fnExactFollows
namespace Go.Proofs.YtephpieeibcihaaDoor
/-- The card, under a short name, for the claim. -/
theorem fnExactFollows_holds : Rows.FnExactFollowsCardSaid := fnExactFollows.card
end Go.Proofs.YtephpieeibcihaaDoor

/- FnExactWhy: its row and its card. -/
import Derived.Test.YtbigpkfdeaigeaaGreatDoorCards
import Derived.Test.YtbigpkfdeaigeaaGreatDoorTie
import Derived.Test.YtbigpkfdeaigeaaGreatDoorWFnExactWhy
import Derived.Test.YtbigpkfdeaigeaaGreatDoorLai
import Derived.Test.YtbigpkfdeaigeaaGreatDoorAm32
import Derived.Test.YtbigpkfdeaigeaaGreatDoorRd2
import Derived.Deep.DeepWitnessRowRef
import Derived.Lib.LaidTab
namespace Go.Proofs.YtbigpkfdeaigeaaGreatDoor.fnExactWhy
open Go Go.Am Go.Proofs.YtbigpkfdeaigeaaGreatDoor
set_option linter.unusedVariables false
theorem own : ownKnob Tryz.prog.godebug = none := by kernel_rfl
theorem mem10 : ("internal/strconv.uint64pow10", pow10D) ∈ Rows.fnExactWhyRow.laid := List.mem_of_getElem? (i := 2) (by kernel_rfl)
theorem memW : ("loop.example/kilndeed/impl.words", wordsD) ∈ Rows.fnExactWhyRow.laid := List.mem_of_getElem? (i := 3) (by kernel_rfl)
theorem whole_some {α β γ : Type} {x : Option (α × β × γ)} {a : α} {b : β} (h : x.map (fun r => (r.1, r.2.1)) = some (a, b)) : ∃ c, x = some (a, b, c) := by
  match x, h with
  | some (_, _, c), rfl => exact ⟨c, rfl⟩
theorem laid_met (os : Os) : laidMet Tryz.prog Rows.fnExactWhyRow.laid ((laidWorldX Tryz.prog os 9 0 0 Rows.fnExactWhyRow.laid).forCall (fun _ _ => 0) ⟨#[], #[.agg #[.slice none 0 0], .agg #[.slice none 0 0]], []⟩).memory :=
  laidMet_of_run' 8 (by kernel_rfl) (by kernel_rfl)
theorem reads (os : Os) {H : Type} (enc : TypeId × Value → H) : ∃ places, DataW.whole enc Tryz.prog ((laidWorldX Tryz.prog os 9 0 0 Rows.fnExactWhyRow.laid).forCall (fun _ _ => 0) ⟨#[], #[.agg #[.slice none 0 0], .agg #[.slice none 0 0]], []⟩).memory Tryz.f3.params.toList Rows.fnExactWhySpec.vars false #[.agg #[.slice none 0 0], .agg #[.slice none 0 0]].toList 8 = some ([.agg [.nil], .agg [.nil]], [.slice (wordsT.map fun l => .lit (.string l)) []], places) :=
  whole_some (by kernel_rfl)
set_option maxRecDepth 100000 in
theorem lifted (os : Os) (started : os.Started) (H : Type) (enc : TypeId × Value → H) (F : Stop.Interp) :
    ReturnsInHanded {} Tryz.checked os 3 .any ((OpenSpec.ofChange Rows.fnExactWhySpec).preRow enc Tryz.prog Tryz.f3 Rows.fnExactWhyRow.domain false Rows.fnExactWhyRow.laid) (((OpenSpec.ofChange Rows.fnExactWhySpec).at F).post enc Tryz.prog Tryz.f3 false true false false) := by
  obtain ⟨places, hx⟩ := reads os enc
  refine returnsInHanded_of_row (C := Tryz.checked) (s := OpenSpec.ofChange Rows.fnExactWhySpec) own started (by kernel_rfl) Tryz.func3
    (witness_row_atRef (enc := enc) (C := Tryz.checked) false (laidWorldX Tryz.prog os 9 0 0 Rows.fnExactWhyRow.laid) #[.agg #[.slice none 0 0], .agg #[.slice none 0 0]] rfl (by kernel_rfl) (by kernel_rfl) (by kernel_rfl)
      (OpenSpec.preRow_of_cond 8 hx (by kernel_rfl) (fun k hk => by cases hk) (by kernel_rfl) (laid_met os))) ?_
  intro W base args ds gs before hval hW _ _ hsz hL _ _
  exact law_contract_vars (P := Tryz.prog) (s := Rows.fnExactWhySpec) (fn := Tryz.f3) (tb := 4) (R := csA (DeedsR false) (csA (DeedsR false) nilA)) (ng := (g10 + 1)) (GP := (fun S => P10 g10 S ∧ WordsG gW S)) (L := fun W => laidMetH Tryz.prog Rows.fnExactWhyRow.laid W) (by kernel_rfl)
    (fun ds gs hd hg => match ds, gs, hd, hg with | [d0, d1], [g0], _, _ => ⟨rfl, rfl, rfl⟩) (by kernel_rfl) und4 (by kernel_rfl) (by kernel_rfl)
    (fun W hL => laidW hL (by kernel_rfl) mem10 memW)
    (show RdA _ [_, _] _ from RdA.consS und24 rd_account (RdA.consS und24 rd_account RdA.nil))
    (by
      rintro S ⟨x0, x1, _⟩ vs hG ⟨c0, F0, _, rfl, h0, ⟨c1, F1, _, rfl, h1, rfl⟩⟩
      obtain ⟨s0, rfl⟩ := List.length_eq_one_iff.1 (Rp.len h0)
      obtain ⟨s1, rfl⟩ := List.length_eq_one_iff.1 (Rp.len h1)
      exact fnExactWhy_ac h0 h1 hG.2 hG.1 (by simp [gW, g10]) (Nat.lt_succ_self _)) W base args ds gs before hval hW hsz hL
theorem k8 : (Rows.fnExactWhyRow.inPlace == Tryz.prog.inPlace 3) = true := by kernel_rfl
theorem k9 : (Rows.fnExactWhyRow.unfollowed == Tryz.prog.unfollowed 3) = true := by kernel_rfl
theorem k10 : (Rows.fnExactWhyRow.recurses == Tryz.prog.recurses 3) = true := by kernel_rfl
theorem k11 : (Rows.fnExactWhyRow.named == Tryz.prog.varsNamed 3) = true := by kernel_rfl
theorem k12 : Tryz.prog.stopsHeard = true := by kernel_rfl
theorem k13 : Tryz.prog.mayEnter = true := by kernel_rfl
theorem k14 : (Rows.fnExactWhyRow.lifted == Tryz.prog.liftsFinal) = true := by kernel_rfl
theorem facts : joinedFacts Tryz.prog 3 Tryz.f3 Rows.fnExactWhySpec Rows.fnExactWhyRow = true := by
  unfold joinedFacts
  rw [k8, k9, k10, k11, k12, k13, k14]
  kernel_rfl
theorem named : Tryz.prog.funcNamed Rows.fnExactWhyRow.func = some 3 := by kernel_rfl
set_option maxRecDepth 100000 in
theorem said : Rows.FnExactWhySaid :=
  OpenClaim.holds_of_cond 3 Tryz.f3 rfl rfl rfl rfl rfl rfl rfl ⟨rfl, rfl, rfl, rfl, rfl⟩ rfl rfl rfl rfl rfl named Tryz.func3 facts
    (of_decide_eq_true (by kernel_rfl)) (by unfold Func.isWrapper; first | (rw [if_pos (by decide +kernel)]; kernel_rfl) | (rw [if_neg (by decide +kernel)]; exact ⟨rfl, rfl⟩))
    (fun os started H enc _ F => by rw [OpenClaim.pre_eq_preRow]; exact lifted os started H enc F)
/-- No parameter wants a stand-in; the program's own looks are off: what the card asks. -/
theorem plain (f : FuncId) (fn : Func) (hf : Tryz.pinned.checked.prog.funcNamed "loop.example/kilndeed/laws.FnExactWhy" = some f) (hfn : Tryz.pinned.checked.prog.funcs[f]? = some fn) :
    false = Tryz.pinned.checked.prog.looks [] ∧ ∀ (j : Nat) t, fn.params[j]? = some t → Tryz.pinned.checked.prog.wantsStandIn t = false := by
  obtain rfl : f = 3 := Option.some.inj ((show Tryz.prog.funcNamed "loop.example/kilndeed/laws.FnExactWhy" = some 3 by kernel_rfl).symm.trans hf) |>.symm
  obtain rfl : fn = Tryz.f3 := (Option.some.inj (Tryz.func3.symm.trans hfn)).symm
  refine ⟨by kernel_rfl, fun j t ht => ?_⟩
  have hall : Tryz.f3.params.all (fun t => Tryz.prog.wantsStandIn t == false) = true := by kernel_rfl
  exact eq_of_beq ((Array.all_eq_true_iff_forall_mem.1 hall) t (Array.mem_of_getElem? ht))
theorem card : Rows.FnExactWhyCardSaid :=
  Claim7.holds_tied_plain_at .later [] _ _ _ _ said (fun _ h => by cases h) (by kernel_rfl) (fun _ h => by cases h) fnExactWhy_row_tie rfl ⟨rfl, rfl⟩ (by kernel_rfl) rfl plain (by kernel_rfl)
#print axioms card
end Go.Proofs.YtbigpkfdeaigeaaGreatDoor.fnExactWhy
namespace Go.Proofs.YtbigpkfdeaigeaaGreatDoor
/-- The card, under a short name, for the claim. -/
theorem fnExactWhy_holds : Rows.FnExactWhyCardSaid := fnExactWhy.card
end Go.Proofs.YtbigpkfdeaigeaaGreatDoor

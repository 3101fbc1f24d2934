/- FnExactStale: its row and its card. -/
import Derived.Test.YtephpieeibcihaaGreatDoorCards
import Derived.Test.YtephpieeibcihaaGreatDoorTie
import Derived.Test.YtephpieeibcihaaGreatDoorWFnExactStale
import Derived.Test.YtephpieeibcihaaGreatDoorLai
import Derived.Test.YtephpieeibcihaaGreatDoorAm32
import Derived.Test.YtephpieeibcihaaGreatDoorRd4
import Derived.Deep.DeepWitnessRowRef
import Derived.Lib.LaidTab
namespace Go.Proofs.YtephpieeibcihaaGreatDoor.fnExactStale
open Go Go.Am Go.Proofs.YtephpieeibcihaaGreatDoor
set_option linter.unusedVariables false
theorem own : ownKnob Tryz.prog.godebug = none := by kernel_rfl
theorem mem10 : ("internal/strconv.uint64pow10", pow10D) ∈ Rows.fnExactStaleRow.laid := List.mem_of_getElem? (i := 2) (by kernel_rfl)
theorem whole_some {α β γ : Type} {x : Option (α × β × γ)} {a : α} {b : β} (h : x.map (fun r => (r.1, r.2.1)) = some (a, b)) : ∃ c, x = some (a, b, c) := by
  match x, h with
  | some (_, _, c), rfl => exact ⟨c, rfl⟩
theorem laid_met (os : Os) : laidMet Tryz.prog Rows.fnExactStaleRow.laid ((laidWorldX Tryz.prog os 9 0 0 Rows.fnExactStaleRow.laid).forCall (fun _ _ => 0) ⟨#[], #[.slice none 0 0, .agg #[.slice none 0 0, .slice none 0 0]], []⟩).memory :=
  laidMet_of_run' 8 (by kernel_rfl) (by kernel_rfl)
theorem reads (os : Os) {H : Type} (enc : TypeId × Value → H) : ∃ places, DataW.whole enc Tryz.prog ((laidWorldX Tryz.prog os 9 0 0 Rows.fnExactStaleRow.laid).forCall (fun _ _ => 0) ⟨#[], #[.slice none 0 0, .agg #[.slice none 0 0, .slice none 0 0]], []⟩).memory Tryz.f9.params.toList Rows.fnExactStaleSpec.vars false #[.slice none 0 0, .agg #[.slice none 0 0, .slice none 0 0]].toList 8 = some ([.nil, .agg [.nil, .nil]], [], places) :=
  whole_some (by kernel_rfl)
set_option maxRecDepth 100000 in
theorem lifted (os : Os) (started : os.Started) (H : Type) (enc : TypeId × Value → H) (F : Stop.Interp) :
    ReturnsInHanded {} Tryz.checked os 9 .any ((OpenSpec.ofChange Rows.fnExactStaleSpec).preRow enc Tryz.prog Tryz.f9 Rows.fnExactStaleRow.domain false Rows.fnExactStaleRow.laid) (((OpenSpec.ofChange Rows.fnExactStaleSpec).at F).post enc Tryz.prog Tryz.f9 false true false false) := by
  obtain ⟨places, hx⟩ := reads os enc
  refine returnsInHanded_of_row (C := Tryz.checked) (s := OpenSpec.ofChange Rows.fnExactStaleSpec) own started (by kernel_rfl) Tryz.func9
    (witness_row_at (enc := enc) (C := Tryz.checked) false (laidWorldX Tryz.prog os 9 0 0 Rows.fnExactStaleRow.laid) #[.slice none 0 0, .agg #[.slice none 0 0, .slice none 0 0]] rfl (by kernel_rfl) (by kernel_rfl) (by kernel_rfl)
      (OpenSpec.preRow_of_cond 8 hx (by kernel_rfl) (fun k hk => by cases hk) (by kernel_rfl) (laid_met os))) ?_
  intro W base args ds gs before hval hW _ _ hsz hL _ _
  exact law_contract_vars (P := Tryz.prog) (s := Rows.fnExactStaleSpec) (fn := Tryz.f9) (tb := 4) (R := c1A (AccsR false) (csA (SpcR false) nilA)) (ng := (g10 + 1)) (GP := (fun S => P10 g10 S)) (L := fun W => laidMetH Tryz.prog Rows.fnExactStaleRow.laid W) (by kernel_rfl)
    (fun ds gs hd hg => match ds, gs, hd, hg with | [d0, d1], [], _, _ => ⟨rfl, rfl, rfl⟩) (by kernel_rfl) und4 (by kernel_rfl) (by kernel_rfl)
    (fun W hL => laid10 hL (by kernel_rfl) mem10)
    (show RdA _ [_, _] _ from RdA.cons1 rd_accounts (fun W base v h => by obtain ⟨_, _, _, rfl⟩ := WideShapes.okWide_slice und22 h; rfl) (RdA.consS und36 rd_space RdA.nil))
    (by
      rintro S ⟨x0, x1, _⟩ vs hG ⟨v0, F0, _, rfl, h0, ⟨c1, F1, _, rfl, h1, rfl⟩⟩
      exact fnExactStale_ac h0 h1 hG (Nat.lt_succ_self _)) W base args ds gs before hval hW hsz hL
theorem k8 : (Rows.fnExactStaleRow.inPlace == Tryz.prog.inPlace 9) = true := by kernel_rfl
theorem k9 : (Rows.fnExactStaleRow.unfollowed == Tryz.prog.unfollowed 9) = true := by kernel_rfl
theorem k10 : (Rows.fnExactStaleRow.recurses == Tryz.prog.recurses 9) = true := by kernel_rfl
theorem k11 : (Rows.fnExactStaleRow.named == Tryz.prog.varsNamed 9) = true := by kernel_rfl
theorem k12 : Tryz.prog.stopsHeard = true := by kernel_rfl
theorem k13 : Tryz.prog.mayEnter = true := by kernel_rfl
theorem k14 : (Rows.fnExactStaleRow.lifted == Tryz.prog.liftsFinal) = true := by kernel_rfl
theorem facts : joinedFacts Tryz.prog 9 Tryz.f9 Rows.fnExactStaleSpec Rows.fnExactStaleRow = true := by
  unfold joinedFacts
  rw [k8, k9, k10, k11, k12, k13, k14]
  kernel_rfl
theorem named : Tryz.prog.funcNamed Rows.fnExactStaleRow.func = some 9 := by kernel_rfl
set_option maxRecDepth 100000 in
theorem said : Rows.FnExactStaleSaid :=
  OpenClaim.holds_of_cond 9 Tryz.f9 rfl rfl rfl rfl rfl rfl rfl ⟨rfl, rfl, rfl, rfl, rfl⟩ rfl rfl rfl rfl rfl named Tryz.func9 facts
    (of_decide_eq_true (by kernel_rfl)) (by unfold Func.isWrapper; first | (rw [if_pos (by decide +kernel)]; kernel_rfl) | (rw [if_neg (by decide +kernel)]; exact ⟨rfl, rfl⟩))
    (fun os started H enc _ F => by rw [OpenClaim.pre_eq_preRow]; exact lifted os started H enc F)
/-- No parameter wants a stand-in; the program's own looks are off: what the card asks. -/
theorem plain (f : FuncId) (fn : Func) (hf : Tryz.pinned.checked.prog.funcNamed "loop.example/kilndeed/laws.FnExactStale" = some f) (hfn : Tryz.pinned.checked.prog.funcs[f]? = some fn) :
    true = Tryz.pinned.checked.prog.looks [] ∧ ∀ (j : Nat) t, fn.params[j]? = some t → Tryz.pinned.checked.prog.wantsStandIn t = false := by
  obtain rfl : f = 9 := Option.some.inj ((show Tryz.prog.funcNamed "loop.example/kilndeed/laws.FnExactStale" = some 9 by kernel_rfl).symm.trans hf) |>.symm
  obtain rfl : fn = Tryz.f9 := (Option.some.inj (Tryz.func9.symm.trans hfn)).symm
  refine ⟨by kernel_rfl, fun j t ht => ?_⟩
  have hall : Tryz.f9.params.all (fun t => Tryz.prog.wantsStandIn t == false) = true := by kernel_rfl
  exact eq_of_beq ((Array.all_eq_true_iff_forall_mem.1 hall) t (Array.mem_of_getElem? ht))
theorem card : Rows.FnExactStaleCardSaid :=
  Claim7.holds_tied_plain_at .later [] _ _ _ _ said (fun _ h => by cases h) (by kernel_rfl) (fun _ h => by cases h) fnExactStale_row_tie rfl ⟨rfl, rfl⟩ (by kernel_rfl) rfl plain (by kernel_rfl)
#print axioms card
end Go.Proofs.YtephpieeibcihaaGreatDoor.fnExactStale
namespace Go.Proofs.YtephpieeibcihaaGreatDoor
/-- The card, under a short name, for the claim. -/
theorem fnExactStale_holds : Rows.FnExactStaleCardSaid := fnExactStale.card
end Go.Proofs.YtephpieeibcihaaGreatDoor

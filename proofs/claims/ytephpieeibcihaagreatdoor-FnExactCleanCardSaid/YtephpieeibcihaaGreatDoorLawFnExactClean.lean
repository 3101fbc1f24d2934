/- FnExactClean: its row and its card. -/
import Derived.Test.YtephpieeibcihaaGreatDoorCards
import Derived.Test.YtephpieeibcihaaGreatDoorTie
import Derived.Test.YtephpieeibcihaaGreatDoorWFnExactClean
import Derived.Test.YtephpieeibcihaaGreatDoorLai
import Derived.Test.YtephpieeibcihaaGreatDoorAm32
import Derived.Test.YtephpieeibcihaaGreatDoorRd2
import Derived.Deep.DeepWitnessRowRef
import Derived.Lib.LaidTab
namespace Go.Proofs.YtephpieeibcihaaGreatDoor.fnExactClean
open Go Go.Am Go.Proofs.YtephpieeibcihaaGreatDoor
set_option linter.unusedVariables false
theorem own : ownKnob Tryz.prog.godebug = none := by kernel_rfl
theorem mem10 : ("internal/strconv.uint64pow10", pow10D) ∈ Rows.fnExactCleanRow.laid := List.mem_of_getElem? (i := 2) (by kernel_rfl)
theorem whole_some {α β γ : Type} {x : Option (α × β × γ)} {a : α} {b : β} (h : x.map (fun r => (r.1, r.2.1)) = some (a, b)) : ∃ c, x = some (a, b, c) := by
  match x, h with
  | some (_, _, c), rfl => exact ⟨c, rfl⟩
theorem laid_met (os : Os) : laidMet Tryz.prog Rows.fnExactCleanRow.laid ((laidWorldX Tryz.prog os 9 0 0 Rows.fnExactCleanRow.laid).forCall (fun _ _ => 0) ⟨#[], #[.agg #[.slice none 0 0, .slice none 0 0], .string ⟨#[]⟩], []⟩).memory :=
  laidMet_of_run' 8 (by kernel_rfl) (by kernel_rfl)
theorem reads (os : Os) {H : Type} (enc : TypeId × Value → H) : ∃ places, DataW.whole enc Tryz.prog ((laidWorldX Tryz.prog os 9 0 0 Rows.fnExactCleanRow.laid).forCall (fun _ _ => 0) ⟨#[], #[.agg #[.slice none 0 0, .slice none 0 0], .string ⟨#[]⟩], []⟩).memory Tryz.f4.params.toList Rows.fnExactCleanSpec.vars false #[.agg #[.slice none 0 0, .slice none 0 0], .string ⟨#[]⟩].toList 8 = some ([.agg [.nil, .nil], .lit (.string [])], [], places) :=
  whole_some (by kernel_rfl)
set_option maxRecDepth 100000 in
theorem lifted (os : Os) (started : os.Started) (H : Type) (enc : TypeId × Value → H) (F : Stop.Interp) :
    ReturnsInHanded {} Tryz.checked os 4 .any ((OpenSpec.ofChange Rows.fnExactCleanSpec).preRow enc Tryz.prog Tryz.f4 Rows.fnExactCleanRow.domain false Rows.fnExactCleanRow.laid) (((OpenSpec.ofChange Rows.fnExactCleanSpec).at F).post enc Tryz.prog Tryz.f4 false true false false) := by
  obtain ⟨places, hx⟩ := reads os enc
  refine returnsInHanded_of_row (C := Tryz.checked) (s := OpenSpec.ofChange Rows.fnExactCleanSpec) own started (by kernel_rfl) Tryz.func4
    (witness_row_at (enc := enc) (C := Tryz.checked) false (laidWorldX Tryz.prog os 9 0 0 Rows.fnExactCleanRow.laid) #[.agg #[.slice none 0 0, .slice none 0 0], .string ⟨#[]⟩] rfl (by kernel_rfl) (by kernel_rfl) (by kernel_rfl)
      (OpenSpec.preRow_of_cond 8 hx (by kernel_rfl) (fun k hk => by cases hk) (by kernel_rfl) (laid_met os))) ?_
  intro W base args ds gs before hval hW _ _ hsz hL _ _
  exact law_contract_vars (P := Tryz.prog) (s := Rows.fnExactCleanSpec) (fn := Tryz.f4) (tb := 4) (R := csA (SpcR false) (c1A sstrR nilA)) (ng := (g10 + 1)) (GP := (fun S => P10 g10 S)) (L := fun W => laidMetH Tryz.prog Rows.fnExactCleanRow.laid W) (by kernel_rfl)
    (fun ds gs hd hg => match ds, gs, hd, hg with | [d0, d1], [], _, _ => ⟨rfl, rfl, rfl⟩) (by kernel_rfl) und4 (by kernel_rfl) (by kernel_rfl)
    (fun W hL => laid10 hL (by kernel_rfl) mem10)
    (show RdA _ [_, _] _ from RdA.consS und36 rd_space (RdA.cons1 (Rd.str und9) (fun W base v h => by obtain ⟨s, rfl⟩ := WideShapes.okWide_string und9 h; rfl) RdA.nil))
    (by
      rintro S ⟨x0, x1, _⟩ vs hG ⟨c0, F0, _, rfl, h0, ⟨v1, F1, _, rfl, ⟨hv1, rfl, h1⟩, rfl⟩⟩
      obtain rfl : v1 = str x1 := by simpa using hv1
      exact fnExactClean_ac h0 h1 hG (Nat.lt_succ_self _)) W base args ds gs before hval hW hsz hL
theorem k8 : (Rows.fnExactCleanRow.inPlace == Tryz.prog.inPlace 4) = true := by kernel_rfl
theorem k9 : (Rows.fnExactCleanRow.unfollowed == Tryz.prog.unfollowed 4) = true := by kernel_rfl
theorem k10 : (Rows.fnExactCleanRow.recurses == Tryz.prog.recurses 4) = true := by kernel_rfl
theorem k11 : (Rows.fnExactCleanRow.named == Tryz.prog.varsNamed 4) = true := by kernel_rfl
theorem k12 : Tryz.prog.stopsHeard = true := by kernel_rfl
theorem k13 : Tryz.prog.mayEnter = true := by kernel_rfl
theorem k14 : (Rows.fnExactCleanRow.lifted == Tryz.prog.liftsFinal) = true := by kernel_rfl
theorem facts : joinedFacts Tryz.prog 4 Tryz.f4 Rows.fnExactCleanSpec Rows.fnExactCleanRow = true := by
  unfold joinedFacts
  rw [k8, k9, k10, k11, k12, k13, k14]
  kernel_rfl
theorem named : Tryz.prog.funcNamed Rows.fnExactCleanRow.func = some 4 := by kernel_rfl
set_option maxRecDepth 100000 in
theorem said : Rows.FnExactCleanSaid :=
  OpenClaim.holds_of_cond 4 Tryz.f4 rfl rfl rfl rfl rfl rfl rfl ⟨rfl, rfl, rfl, rfl, rfl⟩ rfl rfl rfl rfl rfl named Tryz.func4 facts
    (of_decide_eq_true (by kernel_rfl)) (by unfold Func.isWrapper; first | (rw [if_pos (by decide +kernel)]; kernel_rfl) | (rw [if_neg (by decide +kernel)]; exact ⟨rfl, rfl⟩))
    (fun os started H enc _ F => by rw [OpenClaim.pre_eq_preRow]; exact lifted os started H enc F)
/-- No parameter wants a stand-in; the program's own looks are off: what the card asks. -/
theorem plain (f : FuncId) (fn : Func) (hf : Tryz.pinned.checked.prog.funcNamed "loop.example/kilndeed/laws.FnExactClean" = some f) (hfn : Tryz.pinned.checked.prog.funcs[f]? = some fn) :
    true = Tryz.pinned.checked.prog.looks [] ∧ ∀ (j : Nat) t, fn.params[j]? = some t → Tryz.pinned.checked.prog.wantsStandIn t = false := by
  obtain rfl : f = 4 := Option.some.inj ((show Tryz.prog.funcNamed "loop.example/kilndeed/laws.FnExactClean" = some 4 by kernel_rfl).symm.trans hf) |>.symm
  obtain rfl : fn = Tryz.f4 := (Option.some.inj (Tryz.func4.symm.trans hfn)).symm
  refine ⟨by kernel_rfl, fun j t ht => ?_⟩
  have hall : Tryz.f4.params.all (fun t => Tryz.prog.wantsStandIn t == false) = true := by kernel_rfl
  exact eq_of_beq ((Array.all_eq_true_iff_forall_mem.1 hall) t (Array.mem_of_getElem? ht))
theorem card : Rows.FnExactCleanCardSaid :=
  Claim7.holds_tied_plain_at .later [] _ _ _ _ said (fun _ h => by cases h) (by kernel_rfl) (fun _ h => by cases h) fnExactClean_row_tie rfl ⟨rfl, rfl⟩ (by kernel_rfl) rfl plain (by kernel_rfl)
#print axioms card
end Go.Proofs.YtephpieeibcihaaGreatDoor.fnExactClean
namespace Go.Proofs.YtephpieeibcihaaGreatDoor
/-- The card, under a short name, for the claim. -/
theorem fnExactClean_holds : Rows.FnExactCleanCardSaid := fnExactClean.card
end Go.Proofs.YtephpieeibcihaaGreatDoor

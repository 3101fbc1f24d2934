import Derived.Test.YtephpieeibcihaaGreatDoorCards
import Derived.Test.YtephpieeibcihaaGreatDoorTie
import Derived.Test.YtephpieeibcihaaGreatDoorWFnExactMake
import Derived.Test.YtephpieeibcihaaGreatDoorLai
import Derived.Test.YtephpieeibcihaaGreatDoorAm32
import Derived.Test.YtephpieeibcihaaGreatDoorRd2
import Derived.Deep.DeepWitnessRowRef
import Derived.Lib.LaidTab
set_option linter.all false
namespace Go.Proofs.YtephpieeibcihaaGreatDoor.fnExactMake
open Go Go.Am Go.Proofs.YtephpieeibcihaaGreatDoor
theorem own : ownKnob Tryz.prog.godebug = none := by kernel_rfl
theorem mem10 : ("internal/strconv.uint64pow10", pow10D) ∈ Rows.fnExactMakeRow.laid := List.mem_of_getElem? (i := 2) (by kernel_rfl)
theorem whole_some {α β γ : Type} {x : Option (α × β × γ)} {a : α} {b : β} (h : x.map (fun r => (r.1, r.2.1)) = some (a, b)) : ∃ c, x = some (a, b, c) := by
  match x, h with
  | some (_, _, c), rfl => exact ⟨c, rfl⟩
theorem laid_met (os : Os) : laidMet Tryz.prog Rows.fnExactMakeRow.laid ((laidWorldX Tryz.prog os 9 0 0 Rows.fnExactMakeRow.laid).forCall (fun _ _ => 0) ⟨#[], #[.agg #[.slice none 0 0, .slice none 0 0], .string ⟨#[]⟩], []⟩).memory :=
  laidMet_of_run' 8 (by kernel_rfl) (by kernel_rfl)
theorem reads (os : Os) {H : Type} (enc : TypeId × Value → H) : ∃ places, DataW.whole enc Tryz.prog ((laidWorldX Tryz.prog os 9 0 0 Rows.fnExactMakeRow.laid).forCall (fun _ _ => 0) ⟨#[], #[.agg #[.slice none 0 0, .slice none 0 0], .string ⟨#[]⟩], []⟩).memory Tryz.f7.params.toList Rows.fnExactMakeSpec.vars false #[.agg #[.slice none 0 0, .slice none 0 0], .string ⟨#[]⟩].toList 8 = some ([.agg [.nil, .nil], .lit (.string [])], [], places) :=
  whole_some (by kernel_rfl)
set_option maxRecDepth 100000 in
theorem lifted (os : Os) (started : os.Started) (H : Type) (enc : TypeId × Value → H) (F : Stop.Interp) :
    ReturnsInHanded {} Tryz.checked os 7 .any ((OpenSpec.ofChange Rows.fnExactMakeSpec).preRow enc Tryz.prog Tryz.f7 Rows.fnExactMakeRow.domain false Rows.fnExactMakeRow.laid) (((OpenSpec.ofChange Rows.fnExactMakeSpec).at F).post enc Tryz.prog Tryz.f7 false true false false) := by
  obtain ⟨places, hx⟩ := reads os enc
  refine returnsInHanded_of_row (C := Tryz.checked) (s := OpenSpec.ofChange Rows.fnExactMakeSpec) own started (by kernel_rfl) Tryz.func7
    (witness_row_at (enc := enc) (C := Tryz.checked) false (laidWorldX Tryz.prog os 9 0 0 Rows.fnExactMakeRow.laid) #[.agg #[.slice none 0 0, .slice none 0 0], .string ⟨#[]⟩] rfl (by kernel_rfl) (by kernel_rfl) (by kernel_rfl)
      (OpenSpec.preRow_of_cond 8 hx (by kernel_rfl) (fun k hk => by cases hk) (by kernel_rfl) (laid_met os))) ?_
  intro W base args ds gs before hval hW _ _ hsz hL _ _
  exact law_contract_vars (P := Tryz.prog) (s := Rows.fnExactMakeSpec) (fn := Tryz.f7) (tb := 4) (R := csA (SpcR false) (c1A sstrR nilA)) (ng := (g10 + 1)) (GP := (fun S => P10 g10 S)) (L := fun W => laidMetH Tryz.prog Rows.fnExactMakeRow.laid W) (by kernel_rfl)
    (fun ds gs hd hg => match ds, gs, hd, hg with | [d0, d1], [], _, _ => ⟨rfl, rfl, rfl⟩) (by kernel_rfl) und4 (by kernel_rfl) (by kernel_rfl)
    (fun W hL => laid10 hL (by kernel_rfl) mem10)
    (show RdA _ [_, _] _ from RdA.consS und36 rd_space (RdA.cons1 (Rd.str und9) (fun W base v h => by obtain ⟨s, rfl⟩ := WideShapes.okWide_string und9 h; rfl) RdA.nil))
    (by
      rintro S ⟨x0, x1, _⟩ vs hG ⟨c0, F0, _, rfl, h0, ⟨v1, F1, _, rfl, ⟨hv1, rfl, h1⟩, rfl⟩⟩
      obtain rfl : v1 = str x1 := by simpa using hv1
      exact fnExactMake_ac h0 h1 hG (Nat.lt_succ_self _)) W base args ds gs before hval hW hsz hL
theorem k8 : (Rows.fnExactMakeRow.inPlace == Tryz.prog.inPlace 7) = true := by kernel_rfl
theorem k9 : (Rows.fnExactMakeRow.unfollowed == Tryz.prog.unfollowed 7) = true := by kernel_rfl
theorem k10 : (Rows.fnExactMakeRow.recurses == Tryz.prog.recurses 7) = true := by kernel_rfl
theorem k11 : (Rows.fnExactMakeRow.named == Tryz.prog.varsNamed 7) = true := by kernel_rfl
theorem k12 : Tryz.prog.stopsHeard = true := by kernel_rfl
theorem k13 : Tryz.prog.mayEnter = true := by kernel_rfl
theorem k14 : (Rows.fnExactMakeRow.lifted == Tryz.prog.liftsFinal) = true := by kernel_rfl
theorem facts : joinedFacts Tryz.prog 7 Tryz.f7 Rows.fnExactMakeSpec Rows.fnExactMakeRow = true := by
  unfold joinedFacts
  rw [k8, k9, k10, k11, k12, k13, k14]
  kernel_rfl
theorem named : Tryz.prog.funcNamed Rows.fnExactMakeRow.func = some 7 := by kernel_rfl
set_option maxRecDepth 100000 in
theorem said : Rows.FnExactMakeSaid :=
  OpenClaim.holds_of_cond 7 Tryz.f7 rfl rfl rfl rfl rfl rfl rfl ⟨rfl, rfl, rfl, rfl, rfl⟩ rfl rfl rfl rfl rfl named Tryz.func7 facts
    (of_decide_eq_true (by kernel_rfl)) (by unfold Func.isWrapper; first | (rw [if_pos (by decide +kernel)]; kernel_rfl) | (rw [if_neg (by decide +kernel)]; exact ⟨rfl, rfl⟩))
    (fun os started H enc _ F => by rw [OpenClaim.pre_eq_preRow]; exact lifted os started H enc F)
theorem plain (f : FuncId) (fn : Func) (hf : Tryz.pinned.checked.prog.funcNamed "loop.example/kilndeed/laws.FnExactMake" = some f) (hfn : Tryz.pinned.checked.prog.funcs[f]? = some fn) :
    true = Tryz.pinned.checked.prog.looks [] ∧ ∀ (j : Nat) t, fn.params[j]? = some t → Tryz.pinned.checked.prog.wantsStandIn t = false := by
  obtain rfl : f = 7 := Option.some.inj ((show Tryz.prog.funcNamed "loop.example/kilndeed/laws.FnExactMake" = some 7 by kernel_rfl).symm.trans hf) |>.symm
  obtain rfl : fn = Tryz.f7 := (Option.some.inj (Tryz.func7.symm.trans hfn)).symm
  refine ⟨by kernel_rfl, fun j t ht => ?_⟩
  have hall : Tryz.f7.params.all (fun t => Tryz.prog.wantsStandIn t == false) = true := by kernel_rfl
  exact eq_of_beq ((Array.all_eq_true_iff_forall_mem.1 hall) t (Array.mem_of_getElem? ht))
theorem card : Rows.FnExactMakeCardSaid :=
  Claim7.holds_tied_plain_at .later [] _ _ _ _ said (fun _ h => by cases h) (by kernel_rfl) (fun _ h => by cases h) fnExactMake_row_tie rfl ⟨rfl, rfl⟩ (by kernel_rfl) rfl plain (by kernel_rfl)
#print axioms card
end Go.Proofs.YtephpieeibcihaaGreatDoor.fnExactMake
namespace Go.Proofs.YtephpieeibcihaaGreatDoor
theorem fnExactMake_holds : Rows.FnExactMakeCardSaid := fnExactMake.card
end Go.Proofs.YtephpieeibcihaaGreatDoor

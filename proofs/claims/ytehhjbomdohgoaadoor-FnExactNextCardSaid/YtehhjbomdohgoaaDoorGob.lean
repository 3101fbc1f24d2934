/- What is told of the program's variables; numbers as text by the library. No condition. -/
import Derived.Test.YtehhjbomdohgoaaDoorByt
import Derived.Test.YtehhjbomdohgoaaDoorShelf
import Derived.Test.YtehhjbomdohgoaaDoorAm30
set_option linter.unusedSimpArgs false
set_option linter.unusedVariables false
namespace Go.Am
open Go
theorem decN_eq (n : Nat) : Lib.decDigits n = decN n := by
  induction n using Nat.strongRecOn with
  | _ n ih =>
    rw [Lib.decDigits]
    by_cases h : n < 10
    · rw [dif_pos h, decN_small h]
      simp [dig, Nat.mod_eq_of_lt h]
    · rw [dif_neg h, decN_big h, ih (n / 10) (by omega)]
      rfl
theorem itoa_eq (n : Nat) : Lib.itoa (n : Int) = decN n := by
  unfold Lib.itoa
  rw [if_neg (by omega), decN_eq]
  simp
/-- The table of the powers of ten. -/
def P10 (g : Nat) (H : Heap) : Prop := ∃ e f, H[g]? = some ⟨.cells (Lib.pow10Tab.map fun z => Value.int .u64 z).toArray e f, true, false⟩
theorem P10.ext {g : Nat} {H H' : Heap} (h : P10 g H) (he : Ext H H') : P10 g H' := by
  obtain ⟨e, f, h⟩ := h
  exact ⟨e, f, (he _ (List.getElem?_eq_some_iff.1 h).1).trans h⟩
theorem P10.tab {P : Program} {ng g : Nat} {name : String} {E : Emb} {H : Heap} {w : World} (h : P10 g H) (hg : g < ng) (hn : P.globalNamed name = some g) (hr : Rel ng E H w) : Lib.TabIs P w name .u64 Lib.pow10Tab := by
  obtain ⟨e, f, h⟩ := h
  obtain ⟨room, hE, hw⟩ := hr.glob g hg
  obtain ⟨b, hb, hlt, ho⟩ := hr.blk g _ hE
  rw [h] at hb
  obtain rfl := Option.some.inj hb
  obtain ⟨c', e', fr, h1, h2, h3, h4, h5⟩ := ho rfl
  have h6 := hw _ _ _ h
  unfold Lib.TabIs World.var?
  rw [hn]
  dsimp only [Option.bind]
  dsimp only at h1 h2 h3 h4
  rw [h1]
  dsimp only
  congr 1
  apply Array.ext
  · rw [← h2, ← h6]
  · intro i hi1 hi2
    obtain ⟨v', q1, q2⟩ := h4 i hi2
    rw [Nat.zero_add, Array.getElem?_eq_getElem hi1] at q1
    rw [Option.some.inj q1]
    simp only [List.getElem_toArray, List.getElem_map] at q2 ⊢
    exact q2.eq rfl
/-- The words of instructions, as the program keeps them. -/
def WordsG (g : Nat) (H : Heap) : Prop := ∃ sv F e f, H[g]? = some ⟨.cells #[sv] e f, true, false⟩ ∧ SlR false 1 strR H wordsT [sv] F
theorem WordsG.ext {g : Nat} {H H' : Heap} (h : WordsG g H) (he : Ext H H') : WordsG g H' := by
  obtain ⟨sv, F, e, f, h, hr⟩ := h
  exact ⟨sv, F, e, f, (he _ (List.getElem?_eq_some_iff.1 h).1).trans h, Rp.ext hr he⟩
end Go.Am
namespace Go.Proofs.YtehhjbomdohgoaaDoor
open Go Go.Am Go.Proofs
set_option maxRecDepth 20000
variable {ng : Nat}
def g10 : Nat := 2
theorem itoa_ac {n : Nat} {H : Heap} (hn : n ≤ 1000000000) (hg : P10 g10 H) (hng : g10 < ng) {e : Int} (he : e = n) : AC Tryd.prog ng 40 [int e] H fun v S' => v = str (decN n) ∧ S' = H := by
  subst he
  rw [← itoa_eq n]
  exact AC.ofGrow (v := .string ⟨(Lib.itoa (n : Int)).toArray⟩) (by rfl) (by rfl) fun E w hr => Tryd.strconv_Itoa (n : Int) (by omega) (by omega) w (hg.tab hng (by kernel_rfl) hr)
end Go.Proofs.YtehhjbomdohgoaaDoor

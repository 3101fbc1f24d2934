/- FnResults: its walk. No condition. -/
import Derived.Test.YtbigpkfdeaigeaaDoorDrC
import Derived.Test.YtbigpkfdeaigeaaDoorWL
set_option linter.unusedSimpArgs false
set_option linter.unusedVariables false
namespace Go.Am
open Go
theorem formRes_ne {x : Res} : (formRes x = []) ↔ formOk x = false := by
  unfold formRes
  cases formOk x <;> simp
theorem dig_digit {c : Int} (h0 : 0 ≤ c) (h1 : c ≤ 5) : (dig c.toNat).toNat = c.toNat + 48 := by
  obtain ⟨n, rfl⟩ : ∃ n : Nat, c = n := ⟨c.toNat, by omega⟩
  have h : n = 0 ∨ n = 1 ∨ n = 2 ∨ n = 3 ∨ n = 4 ∨ n = 5 := by omega
  rcases h with rfl | rfl | rfl | rfl | rfl | rfl <;> rfl
/-- What is written is read back. -/
theorem read_form {x : Res} (h : formOk x = true) : readOk (formRes x) = true ∧ readRes (formRes x) = x := by
  have h' := h
  unfold formOk at h'
  simp only [Bool.and_eq_true, decide_eq_true_eq] at h'
  obtain ⟨⟨⟨h0, h1⟩, h2⟩, h3⟩ := h'
  have hd := dig_digit h0 h1
  have hr : readOk (formRes x) = true := by
    unfold formRes
    rw [if_pos h]
    simp only [readOk, Bool.and_eq_true, decide_eq_true_eq]
    rw [hd]
    exact ⟨⟨⟨by omega, by omega⟩, rfl⟩, h2⟩
  refine ⟨hr, ?_⟩
  unfold readRes
  rw [if_pos hr]
  unfold formRes
  rw [if_pos h]
  obtain ⟨c, t, l⟩ := x
  dsimp only at h0 h1 h3 hd ⊢
  rw [hd]
  have : l = [] := List.length_eq_zero_iff.1 h3
  subst this
  congr 1
  omega
set_option maxRecDepth 100000 in
theorem dig_of {b : UInt8} (h0 : 48 ≤ b.toNat) (h1 : b.toNat ≤ 53) : dig ((b.toNat : Int) - 48).toNat = b := by
  have h : ∀ n : Fin 256, 48 ≤ n.val → n.val ≤ 53 → dig (n.val - 48) = UInt8.ofNat n.val := by decide
  have := h ⟨b.toNat, b.toNat_lt⟩ h0 h1
  simp only [UInt8.ofNat_toNat] at this
  rw [show ((b.toNat : Int) - 48).toNat = b.toNat - 48 by omega]
  exact this
theorem readRes_text : ∀ t : List UInt8, (readRes t).text.length ≤ t.length
  | [] => by unfold readRes; split <;> simp
  | [_] => by unfold readRes; split <;> simp
  | _ :: _ :: t => by unfold readRes; split <;> simp; omega
/-- What is read is the form of what was read. -/
theorem form_read {t : List UInt8} (h : readOk t = true) : formRes (readRes t) = t := by
  match t, h with
  | [], h => cases h
  | [a], h => cases h
  | a :: b :: t, h =>
    have h' := h
    simp only [readOk, Bool.and_eq_true, decide_eq_true_eq] at h'
    obtain ⟨⟨⟨h0, h1⟩, h2⟩, h3⟩ := h'
    unfold readRes
    rw [if_pos h]
    dsimp only
    unfold formRes formOk
    rw [if_pos (by simp; omega)]
    dsimp only
    rw [dig_of h0 h1]
    have : b = 58 := by
      apply UInt8.toNat_inj.1
      rw [h2]
      rfl
    rw [this]
end Go.Am
namespace Go.Proofs.YtbigpkfdeaigeaaDoor
open Go Go.Am Go.Proofs
set_option maxRecDepth 20000
variable {ng : Nat}
theorem fnResults_ac {own : Bool} {l : List UInt8} {sl : Value} {F : List Nat} {H : Heap} (hs : BytesR own H l [sl] F) : AC Tryd.prog ng 3 [sl] H fun v S' => v = .bool true ∧ S' = H := by
  obtain ⟨a, z, rfl⟩ := hs.form
  refine .flat (AC.go [] Tryd.func3 rfl Tryd.ntmps3 rfl ⟨mixed, by kernel_rfl⟩ ?_)
  simp (dsimp := false)
  refine ifA_dec (fun h => ?_) (fun h => ?_)
  · simp
  refine CallK.of ⟨_, Tryd.func5, rfl, rfl⟩ (DrawFormResult_ac hs) ?_
  rintro v S1 ⟨x, c, F1, rfl, he1, hx, hf, b1, b2, b3, b4⟩
  obtain ⟨cs, rfl, hx'⟩ := id hx
  obtain ⟨a1, z1, rfl⟩ := hx'.form
  have hok : okS x.text := by unfold okS; omega
  simp (dsimp := false)
  refine CallK.fl ⟨_, Tryd.func6, rfl, rfl⟩ (implFormResult_ac (Rp.ext hx (Ext.app _ _)) hok) ?_
  simp (dsimp := false)
  refine CallK.fl ⟨_, Tryd.func7, rfl, rfl⟩ (specFormResult_ac (Rp.ext hx (Ext.app _ _)) hok) ?_
  have hlF := formRes_len (x := x)
  simp (dsimp := false)
  refine CallK.fl ⟨_, Tryd.func8, rfl, rfl⟩ (implReadResult_ac (formRes x) (by omega) _) ?_
  cases hfo : formOk x with
  | true =>
    obtain ⟨r1, r2⟩ := read_form hfo
    have r3 : ¬ formRes x = [] := fun hc => by rw [formRes_ne, hfo] at hc; cases hc
    have hch : x.chain = [] := by
      unfold formOk at hfo
      simp only [Bool.and_eq_true, decide_eq_true_eq] at hfo
      exact List.length_eq_zero_iff.1 hfo.2
    rw [r1, r2]
    simp (dsimp := false) [Res.c, r3]
    refine CallK.fl ⟨_, Tryd.func9, rfl, rfl⟩ (wResult_ac (o1 := true) (c1 := x.c) (F1 := []) (Res.of hch) (Rp.ext hx (Ext.app _ _))) ?_
    simp (dsimp := false)
    refine CallK.gen fun K hK => ?_
    have hxK : Ext S1 K := by rw [hK]; exact Ext.app _ _
    clear hK
    refine CallK.of ⟨_, Tryd.func10, rfl, rfl⟩ (DrawReadResult_ac (Rp.ext hs (he1.trans hxK))) ?_
    rintro v S2 ⟨t, rfl, ht, he2⟩
    simp (dsimp := false)
    refine CallK.fl ⟨_, Tryd.func8, rfl, rfl⟩ (implReadResult_ac t (by omega) _) ?_
    simp (dsimp := false) [Res.c]
    refine CallK.fl ⟨_, Tryd.func11, rfl, rfl⟩ (specReadResult_ac t (by omega) _) ?_
    have hfr := fun h => form_read (t := t) h
    cases hr : readOk t with
    | true =>
      rw [hr] at hfr
      have hch := readRes_chain t
      have hcok : okS (readRes t).text := by
        have := readRes_text t
        unfold okS
        omega
      simp (dsimp := false) [Res.c]
      refine CallK.fl ⟨_, Tryd.func6, rfl, rfl⟩ (implFormResult_ac (own := true) (x := readRes t) (c := (readRes t).c) (F := []) (Res.of hch) hcok) ?_
      simp (dsimp := false) [hfr rfl]
      exact (he1.trans (hxK.trans he2)).trans (Ext.app _ _)
    | false =>
      simp (dsimp := false) [Res.c]
      exact (he1.trans (hxK.trans he2)).trans (Ext.app _ _)
  | false =>
    have r3 : formRes x = [] := formRes_ne.2 hfo
    rw [r3]
    have r4 : readOk [] = false := rfl
    have r5 : readRes [] = ⟨0, [], []⟩ := rfl
    simp (dsimp := false) [Res.c, r4, r5]
    refine CallK.gen fun K hK => ?_
    have hxK : Ext S1 K := by rw [hK]; exact Ext.app _ _
    clear hK
    refine CallK.of ⟨_, Tryd.func10, rfl, rfl⟩ (DrawReadResult_ac (Rp.ext hs (he1.trans hxK))) ?_
    rintro v S2 ⟨t, rfl, ht, he2⟩
    simp (dsimp := false)
    refine CallK.fl ⟨_, Tryd.func8, rfl, rfl⟩ (implReadResult_ac t (by omega) _) ?_
    simp (dsimp := false) [Res.c]
    refine CallK.fl ⟨_, Tryd.func11, rfl, rfl⟩ (specReadResult_ac t (by omega) _) ?_
    have hfr := fun h => form_read (t := t) h
    cases hr : readOk t with
    | true =>
      rw [hr] at hfr
      have hch := readRes_chain t
      have hcok : okS (readRes t).text := by
        have := readRes_text t
        unfold okS
        omega
      simp (dsimp := false) [Res.c]
      refine CallK.fl ⟨_, Tryd.func6, rfl, rfl⟩ (implFormResult_ac (own := true) (x := readRes t) (c := (readRes t).c) (F := []) (Res.of hch) hcok) ?_
      simp (dsimp := false) [hfr rfl]
      exact (he1.trans (hxK.trans he2)).trans (Ext.app _ _)
    | false =>
      simp (dsimp := false) [Res.c]
      exact (he1.trans (hxK.trans he2)).trans (Ext.app _ _)
end Go.Proofs.YtbigpkfdeaigeaaDoor

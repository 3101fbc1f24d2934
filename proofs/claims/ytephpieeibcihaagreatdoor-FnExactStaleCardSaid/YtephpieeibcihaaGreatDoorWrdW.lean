import Derived.Test.YtephpieeibcihaaGreatDoorMch
import Derived.Lib.FieldsP
import Derived.Lib.TrimUEq
import Derived.Test.YtephpieeibcihaaGreatDoorProg
import Derived.WalkKit
import Derived.Shelf.GgClosure.GivesRunes
import Derived.Test.YtephpieeibcihaaGreatDoorShelf
import Derived.Test.YtephpieeibcihaaGreatDoorAm30
import Derived.Test.YtephpieeibcihaaGreatDoorStr
/- Words of a text, by runes and by bytes. No condition. -/
namespace Go.Am
open Go Go.Lib
set_option linter.unusedSimpArgs false
set_option linter.unusedVariables false
theorem wordsL_skip : ∀ (u v w : List UInt8), (∀ b ∈ u, gapB b = false) → wordsL (u ++ v) w = wordsL v (w ++ u)
  | [], v, w, _ => by simp
  | b :: u, v, w, h => by
    rw [List.cons_append, wordsL, h b (by simp), if_neg (by simp), wordsL_skip u v (w ++ [b]) fun x hx => h x (by simp [hx])]
    simp
/-- The predicate, on runes. -/
def gapR (r : Nat) : Bool := decide (r = 32) || decide (r = 10)
theorem gapB_hi {b : UInt8} (h : 128 ≤ b.toNat) : gapB b = false := by
  simp only [gapB, Bool.or_eq_false_iff, decide_eq_false_iff_not]
  constructor <;> rintro rfl <;> simp at h
theorem gapB_R (b : UInt8) : gapB b = gapR b.toNat := by
  simp only [gapB, gapR]
  rw [Bool.eq_iff_iff]
  simp only [Bool.or_eq_true, decide_eq_true_eq]
  constructor
  · rintro (rfl | rfl) <;> simp
  · rintro (h | h)
    · exact .inl (UInt8.toNat_inj.1 h)
    · exact .inr (UInt8.toNat_inj.1 h)
theorem gapR_hi {r : Nat} (h : 128 ≤ r) : gapR r = false := by
  simp only [gapR, Bool.or_eq_false_iff, decide_eq_false_iff_not]
  omega
theorem decodeN_gap (n b0 b1 b2 b3 : Nat) : (b0 < 128 ∧ decodeN n b0 b1 b2 b3 = (b0, 1)) ∨ (128 ≤ b0 ∧ 128 ≤ (decodeN n b0 b1 b2 b3).1 ∧ ((decodeN n b0 b1 b2 b3).2 = 1 ∨ ((decodeN n b0 b1 b2 b3).2 = 2 ∧ 128 ≤ b1) ∨ ((decodeN n b0 b1 b2 b3).2 = 3 ∧ 128 ≤ b1 ∧ 128 ≤ b2) ∨ ((decodeN n b0 b1 b2 b3).2 = 4 ∧ 128 ≤ b1 ∧ 128 ≤ b2 ∧ 128 ≤ b3))) := by
  unfold decodeN
  repeat' split
  all_goals first
    | exact .inl ⟨by assumption, rfl⟩
    | (refine .inr ⟨by omega, by dsimp only; omega, .inl rfl⟩)
    | (refine .inr ⟨by omega, by dsimp only; omega, .inr (.inl ⟨rfl, by omega⟩)⟩)
    | (refine .inr ⟨by omega, by dsimp only; omega, .inr (.inr (.inl ⟨rfl, by omega, by omega⟩))⟩)
    | (refine .inr ⟨by omega, by dsimp only; omega, .inr (.inr (.inr ⟨rfl, by omega, by omega, by omega⟩))⟩)
theorem take_all {l : List UInt8} {pos k : Nat} {p : UInt8 → Prop} (h : ∀ i, i < k → pos + i < l.length → p (l.getD (pos + i) 0)) : ∀ b ∈ (l.drop pos).take k, p b := by
  intro b hb
  obtain ⟨i, hi, rfl⟩ := List.getElem_of_mem hb
  simp only [List.length_take, List.length_drop] at hi
  have := h i (by omega) (by omega)
  rw [List.getD_eq_getElem?_getD, List.getElem?_eq_getElem (by omega)] at this
  simpa using this
theorem dec_gap (s : ByteArray) (pos : Nat) (h : pos < s.size) : (gapR (Utf8.decode s pos).1 = true ∧ (Utf8.decode s pos).2 = 1 ∧ gapB (s.data.toList.getD pos 0) = true) ∨ (gapR (Utf8.decode s pos).1 = false ∧ ∀ b ∈ (s.data.toList.drop pos).take (Utf8.decode s pos).2, gapB b = false) := by
  rw [decode_N]
  rcases decodeN_gap (s.data.toList.length - pos) (s.data.toList.getD pos 0).toNat (s.data.toList.getD (pos + 1) 0).toNat (s.data.toList.getD (pos + 2) 0).toNat (s.data.toList.getD (pos + 3) 0).toNat with ⟨h1, h2⟩ | ⟨h1, h2, h3⟩
  · rw [h2]
    cases hg : gapR (s.data.toList.getD pos 0).toNat with
    | true => exact .inl ⟨rfl, rfl, by rw [gapB_R, hg]⟩
    | false =>
      refine .inr ⟨rfl, take_all fun i hi _ => ?_⟩
      obtain rfl : i = 0 := by simpa using hi
      rw [gapB_R, Nat.add_zero, hg]
  · refine .inr ⟨gapR_hi h2, take_all fun i hi _ => gapB_hi ?_⟩
    have e : i = 0 ∨ i = 1 ∨ i = 2 ∨ i = 3 := by omega
    rcases e with rfl | rfl | rfl | rfl
    · simpa using h1
    · rcases h3 with h3 | ⟨h3, h4⟩ | ⟨h3, h4, h5⟩ | ⟨h3, h4, h5, h6⟩ <;> first | assumption | omega
    · rcases h3 with h3 | ⟨h3, h4⟩ | ⟨h3, h4, h5⟩ | ⟨h3, h4, h5, h6⟩ <;> first | assumption | omega
    · rcases h3 with h3 | ⟨h3, h4⟩ | ⟨h3, h4, h5⟩ | ⟨h3, h4, h5, h6⟩ <;> first | assumption | omega
theorem spans_words (s : ByteArray) : ∀ (f pos : Nat) (st : Option Nat) (acc : List (Nat × Nat)), s.size ≤ pos + f → pos ≤ s.size → (∀ a, st = some a → a < pos) →
    acc.map (fun p => pieceU s.data.toList p.1 p.2) ++ wordsL (s.data.toList.drop pos) (openPiece s.data.toList st pos) = (closeSpans s (spansFromP gapR s f pos st acc)).map (fun p => pieceU s.data.toList p.1 p.2)
  | 0, pos, st, acc, h, hp, hst => by
    obtain rfl : pos = s.size := by omega
    have hd : s.data.toList.drop s.size = [] := List.drop_eq_nil_of_le (by rw [← size_eq]; exact Nat.le_refl _)
    rw [hd, wordsL]
    cases st with
    | none => simp [spansFromP, closeSpans, openPiece]
    | some a =>
      have := pieceU_ne s.data.toList a s.size (hst a rfl) (by rw [← size_eq]; exact Nat.le_refl _)
      simp [spansFromP, closeSpans, openPiece, this]
  | f + 1, pos, st, acc, h, hp, hst => by
    by_cases hlt : pos < s.size
    · have hlen : s.data.toList.length = s.size := by rw [← size_eq]
      have hw := width_pos s pos
      have hwn : pos + (Utf8.decode s pos).2 ≤ s.size := by
        have := decodeN_le_n' (s.size - pos) (s.get! pos).toNat (s.get! (pos + 1)).toNat (s.get! (pos + 2)).toNat (s.get! (pos + 3)).toNat (by omega)
        rw [← decode_at] at this
        omega
      simp only [spansFromP, if_pos hlt]
      rcases dec_gap s pos hlt with ⟨g1, g2, g3⟩ | ⟨g1, g2⟩
      · rw [g1, g2]
        simp only [if_true]
        have hdc : s.data.toList.drop pos = s.data.toList.getD pos 0 :: s.data.toList.drop (pos + 1) := by
          rw [List.drop_eq_getElem_cons (by omega), List.getD_eq_getElem?_getD, List.getElem?_eq_getElem (by omega)]
          rfl
        rw [hdc, wordsL, g3, if_pos rfl]
        cases st with
        | none =>
          have ih := spans_words s f (pos + 1) none acc (by omega) (by omega) (fun a h => by cases h)
          simpa [openPiece] using ih
        | some a =>
          have hpn := pieceU_ne s.data.toList a pos (hst a rfl) (by omega)
          have ih := spans_words s f (pos + 1) none (acc ++ [(a, pos)]) (by omega) (by omega) (fun a h => by cases h)
          simpa [openPiece, hpn] using ih
      · rw [g1]
        simp only [Bool.false_eq_true, if_false]
        have hsp : s.data.toList.drop pos = (s.data.toList.drop pos).take (Utf8.decode s pos).2 ++ s.data.toList.drop (pos + (Utf8.decode s pos).2) := by
          rw [← List.drop_drop, List.take_append_drop]
        rw [hsp, wordsL_skip _ _ _ g2]
        cases st with
        | none =>
          have ih := spans_words s f (pos + (Utf8.decode s pos).2) (some pos) acc (by omega) hwn (fun a h => by cases h; omega)
          have e : ([] : List UInt8) ++ (s.data.toList.drop pos).take (Utf8.decode s pos).2 = pieceU s.data.toList pos (pos + (Utf8.decode s pos).2) := by
            unfold pieceU
            rw [List.nil_append, Nat.add_sub_cancel_left]
          simp only [openPiece] at ih ⊢
          rw [e]
          exact ih
        | some a =>
          have ih := spans_words s f (pos + (Utf8.decode s pos).2) (some a) acc (by omega) hwn (fun b h => by cases h; have := hst a rfl; omega)
          have e := pieceU_grow s.data.toList a pos (Utf8.decode s pos).2 (by have := hst a rfl; omega)
          simp only [openPiece] at ih ⊢
          rw [e]
          exact ih
    · obtain rfl : pos = s.size := by omega
      have hd : s.data.toList.drop s.size = [] := List.drop_eq_nil_of_le (by rw [← size_eq]; exact Nat.le_refl _)
      rw [hd, wordsL, spansFromP_end _ _ _ _ _ _ hlt]
      cases st with
      | none => simp [closeSpans, openPiece]
      | some a =>
        have := pieceU_ne s.data.toList a s.size (hst a rfl) (by rw [← size_eq]; exact Nat.le_refl _)
        simp [closeSpans, openPiece, this]
theorem fields_words (l : List UInt8) : (goFieldsP gapR ⟨⟨l⟩⟩).map (fun x => x.data.toList) = wordsL l [] := by
  have h := spans_words ⟨⟨l⟩⟩ l.length 0 none [] (by simp [ByteArray.size]) (Nat.zero_le _) (fun a h => by cases h)
  simp only [List.map_nil, List.nil_append, List.drop_zero, openPiece] at h
  rw [h]
  unfold goFieldsP spansOfP
  rw [List.map_map]
  apply List.map_congr_left
  intro x _
  simp [pieceU, ByteArray.extract, ByteArray.copySlice]
end Go.Am

/- impl.word: the library's FieldsFunc at its predicate. No condition. -/
set_option linter.unusedSimpArgs false
set_option linter.unusedVariables false
namespace Go.Proofs.YtephpieeibcihaaGreatDoor
open Go Go.RowKit Go.Lib Go.Proofs Go.Am
set_option maxRecDepth 20000
variable {ng : Nat}
set_option maxHeartbeats 1000000 in
set_option maxRecDepth 100000 in
theorem gap_gives (x : Nat) (hx : x ≤ 1114111) (w : World) : Calls Tryz.prog 257 #[.int .i32 x] w fun e w' => e = .returned (.bool (gapR x)) ∧ ∃ q, w' = w.drewN q := by
  by_cases h1 : (x : Int) = 32
  · have e : gapR x = true := by simp [gapR]; omega
    go_enter Tryz.func257, Tryz.ntmps257
    go_wp2
    go_ret
    exact ⟨by rw [e]; rfl, 0, rfl⟩
  · have e : gapR x = ((x : Int) == 32 || (x : Int) == 10) := by
      rw [Bool.eq_iff_iff]
      simp [gapR]
      omega
    go_enter Tryz.func257, Tryz.ntmps257
    go_wp2
    go_ret
    exact ⟨by rw [e]; rfl, 0, rfl⟩
theorem fieldsFunc_ac {s : List UInt8} {H : Heap} (hs : s.length ≤ 4294967296) : AC Tryz.prog ng 256 [str s, .func (.func 257) #[] #[]] H fun v S' =>
    v = .slice (some ⟨H.length, 0, none⟩) (wordsL s []).length 1 ∧ S' = H ++ [⟨.cells ((wordsL s []).map str).toArray 9 (0, 1), true, true⟩] := by
  have hm : (wordsL s []).map str = (goFieldsP gapR ⟨⟨s⟩⟩).map Value.string := by
    rw [← fields_words, List.map_map]
    apply List.map_congr_left
    intro x _
    rfl
  have hl : (goFieldsP gapR ⟨⟨s⟩⟩).length = ((goFieldsP gapR ⟨⟨s⟩⟩).map Value.string).length := by simp
  rw [show (wordsL s []).length = ((wordsL s []).map str).length by simp, hm]
  refine AC.ofRow (by rfl) (by simp [flat0]) fun w => ?_
  have h := Tryz.strings_FieldsFunc_runes 257 #[] (enters_of Tryz.func257 (by kernel_rfl) rfl) gapR ⟨⟨s⟩⟩ w (by simpa [ByteArray.size] using hs) (fun W x hx _ => gap_gives x hx W)
  rw [hl] at h
  refine Calls.mono h ?_
  rintro ex w' ⟨A, rfl, h1, h2, h3⟩
  exact ⟨A, _, rfl, h1, h2, h3⟩
theorem rep_strs' {H : Heap} : ∀ {l : List (List UInt8)}, (∀ x ∈ l, okS x) → RepL strR H l (l.map str) []
  | [], _ => ⟨rfl, rfl⟩
  | x :: l, h => ⟨[str x], _, [], [], rfl, rfl, ⟨rfl, rfl, h x (by simp)⟩, rep_strs' fun y hy => h y (by simp [hy])⟩
theorem wordsL_num : ∀ (s w : List UInt8), (wordsL s w).length ≤ s.length + 1
  | [], w => by rw [wordsL]; split <;> simp
  | b :: s, w => by
    have h1 := wordsL_num s []
    have h2 := wordsL_num s (w ++ [b])
    rw [wordsL]
    repeat' split
    all_goals simp only [List.length_cons]; omega
theorem word_ac {s : List UInt8} {n : Nat} {H : Heap} (hs : s.length ≤ 2000) : AC Tryz.prog ng 224 [str s, int n] H fun v S' => v = str (wordAt s n) ∧ S' = H := by
  refine .flat (AC.go [] Tryz.func224 rfl Tryz.ntmps224 rfl ⟨mixed, by kernel_rfl⟩ ?_)
  simp +contextual (dsimp := false)
  refine CallK.of ⟨_, Tryz.func256, rfl, rfl⟩ (fieldsFunc_ac (by omega)) ?_
  rintro v S' ⟨rfl, rfl⟩
  simp +contextual (dsimp := false)
  have hok : ∀ x ∈ wordsL s [], okS x := fun x hx => by have := wordsL_len s [] s.length (by simp) x hx; unfold okS; omega
  have hnum := wordsL_num s []
  refine ifA_dec (fun h1 => ?_) (fun h1 => ?_)
  · have hs1 : StrsR true (H ++ [(⟨.cells ((wordsL s []).map str).toArray 9 (0, 1), true, true⟩ : Blk)]) (wordsL s []) [.slice (some ⟨H.length, 0, none⟩) (wordsL s []).length 1] [H.length] :=
      SlR.lit (j := H.length) (c := (wordsL s []).map str) (e := 9) (f := (0, 1)) (o := true) (G := []) (by simp) (rep_strs' hok) (by omega) (fun _ => rfl)
    obtain ⟨id, o, c, e, f, ow, cs, Fi, E⟩ := SlR.get hs1 n h1
    obtain ⟨rfl, rfl, hok'⟩ := E.rep
    have hc0 := E.cell0 (by omega)
    simp +contextual (dsimp := false) [E.idx, E.goB, E.le, hc0]
    simp [wordAt, List.getD, h1]
  · simp [wordAt, List.getD, List.getElem?_eq_none (show (wordsL s []).length ≤ n by omega)]
end Go.Proofs.YtephpieeibcihaaGreatDoor

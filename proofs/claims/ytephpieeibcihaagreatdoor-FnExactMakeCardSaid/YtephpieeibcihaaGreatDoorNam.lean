import Derived.Test.YtephpieeibcihaaGreatDoorMch
import Derived.Lib.FieldsP
import Derived.Lib.TrimUEq
import Derived.Test.YtephpieeibcihaaGreatDoorProg
import Derived.WalkKit
import Derived.Shelf.GgClosure.GivesRunes
import Derived.Test.YtephpieeibcihaaGreatDoorShelf
import Derived.Test.YtephpieeibcihaaGreatDoorAm32
import Derived.Test.YtephpieeibcihaaGreatDoorRsw
import Derived.Test.YtephpieeibcihaaGreatDoorF2
set_option linter.all false
namespace Go.Am
open Go Go.Lib
theorem wordsL_skip : ∀ (u v w : List UInt8), (∀ b ∈ u, gapB b = false) → wordsL (u ++ v) w = wordsL v (w ++ u)
  | [], v, w, _ => by simp
  | b :: u, v, w, h => by
    rw [List.cons_append, wordsL, h b (by simp), if_neg (by simp), wordsL_skip u v (w ++ [b]) fun x hx => h x (by simp [hx])]
    simp
def gapR (r : Nat) : Bool := decide (r = 32) || decide (r = 10)
theorem gapB_hi {b : UInt8} (h : 128 ≤ b.toNat) : gapB b = false := by
  simp only [gapB, Bool.or_eq_false_iff, decide_eq_false_iff_not]
  constructor <;> rintro rfl <;> simp at h
theorem gapB_R (b : UInt8) : gapB b = gapR b.toNat := by
  simp only [gapB, gapR]
  rw [Bool.eq_iff_iff]
  simp only [Bool.or_eq_true, decide_eq_true_eq]
  constructor
  · rintro (rfl | rfl) <;> simp
  · rintro (h | h)
    · exact .inl (UInt8.toNat_inj.1 h)
    · exact .inr (UInt8.toNat_inj.1 h)
theorem gapR_hi {r : Nat} (h : 128 ≤ r) : gapR r = false := by
  simp only [gapR, Bool.or_eq_false_iff, decide_eq_false_iff_not]
  omega
theorem decodeN_gap (n b0 b1 b2 b3 : Nat) : (b0 < 128 ∧ decodeN n b0 b1 b2 b3 = (b0, 1)) ∨ (128 ≤ b0 ∧ 128 ≤ (decodeN n b0 b1 b2 b3).1 ∧ ((decodeN n b0 b1 b2 b3).2 = 1 ∨ ((decodeN n b0 b1 b2 b3).2 = 2 ∧ 128 ≤ b1) ∨ ((decodeN n b0 b1 b2 b3).2 = 3 ∧ 128 ≤ b1 ∧ 128 ≤ b2) ∨ ((decodeN n b0 b1 b2 b3).2 = 4 ∧ 128 ≤ b1 ∧ 128 ≤ b2 ∧ 128 ≤ b3))) := by
  unfold decodeN
  repeat' split
  all_goals first
    | exact .inl ⟨by assumption, rfl⟩
    | (refine .inr ⟨by omega, by dsimp only; omega, .inl rfl⟩)
    | (refine .inr ⟨by omega, by dsimp only; omega, .inr (.inl ⟨rfl, by omega⟩)⟩)
    | (refine .inr ⟨by omega, by dsimp only; omega, .inr (.inr (.inl ⟨rfl, by omega, by omega⟩))⟩)
    | (refine .inr ⟨by omega, by dsimp only; omega, .inr (.inr (.inr ⟨rfl, by omega, by omega, by omega⟩))⟩)
theorem take_all {l : List UInt8} {pos k : Nat} {p : UInt8 → Prop} (h : ∀ i, i < k → pos + i < l.length → p (l.getD (pos + i) 0)) : ∀ b ∈ (l.drop pos).take k, p b := by
  intro b hb
  obtain ⟨i, hi, rfl⟩ := List.getElem_of_mem hb
  simp only [List.length_take, List.length_drop] at hi
  have := h i (by omega) (by omega)
  rw [List.getD_eq_getElem?_getD, List.getElem?_eq_getElem (by omega)] at this
  simpa using this
theorem dec_gap (s : ByteArray) (pos : Nat) (h : pos < s.size) : (gapR (Utf8.decode s pos).1 = true ∧ (Utf8.decode s pos).2 = 1 ∧ gapB (s.data.toList.getD pos 0) = true) ∨ (gapR (Utf8.decode s pos).1 = false ∧ ∀ b ∈ (s.data.toList.drop pos).take (Utf8.decode s pos).2, gapB b = false) := by
  rw [decode_N]
  rcases decodeN_gap (s.data.toList.length - pos) (s.data.toList.getD pos 0).toNat (s.data.toList.getD (pos + 1) 0).toNat (s.data.toList.getD (pos + 2) 0).toNat (s.data.toList.getD (pos + 3) 0).toNat with ⟨h1, h2⟩ | ⟨h1, h2, h3⟩
  · rw [h2]
    cases hg : gapR (s.data.toList.getD pos 0).toNat with
    | true => exact .inl ⟨rfl, rfl, by rw [gapB_R, hg]⟩
    | false =>
      refine .inr ⟨rfl, take_all fun i hi _ => ?_⟩
      obtain rfl : i = 0 := by simpa using hi
      rw [gapB_R, Nat.add_zero, hg]
  · refine .inr ⟨gapR_hi h2, take_all fun i hi _ => gapB_hi ?_⟩
    have e : i = 0 ∨ i = 1 ∨ i = 2 ∨ i = 3 := by omega
    rcases e with rfl | rfl | rfl | rfl
    · simpa using h1
    · rcases h3 with h3 | ⟨h3, h4⟩ | ⟨h3, h4, h5⟩ | ⟨h3, h4, h5, h6⟩ <;> first | assumption | omega
    · rcases h3 with h3 | ⟨h3, h4⟩ | ⟨h3, h4, h5⟩ | ⟨h3, h4, h5, h6⟩ <;> first | assumption | omega
    · rcases h3 with h3 | ⟨h3, h4⟩ | ⟨h3, h4, h5⟩ | ⟨h3, h4, h5, h6⟩ <;> first | assumption | omega
theorem spans_words (s : ByteArray) : ∀ (f pos : Nat) (st : Option Nat) (acc : List (Nat × Nat)), s.size ≤ pos + f → pos ≤ s.size → (∀ a, st = some a → a < pos) →
    acc.map (fun p => pieceU s.data.toList p.1 p.2) ++ wordsL (s.data.toList.drop pos) (openPiece s.data.toList st pos) = (closeSpans s (spansFromP gapR s f pos st acc)).map (fun p => pieceU s.data.toList p.1 p.2)
  | 0, pos, st, acc, h, hp, hst => by
    obtain rfl : pos = s.size := by omega
    have hd : s.data.toList.drop s.size = [] := List.drop_eq_nil_of_le (by rw [← size_eq]; exact Nat.le_refl _)
    rw [hd, wordsL]
    cases st with
    | none => simp [spansFromP, closeSpans, openPiece]
    | some a =>
      have := pieceU_ne s.data.toList a s.size (hst a rfl) (by rw [← size_eq]; exact Nat.le_refl _)
      simp [spansFromP, closeSpans, openPiece, this]
  | f + 1, pos, st, acc, h, hp, hst => by
    by_cases hlt : pos < s.size
    · have hlen : s.data.toList.length = s.size := by rw [← size_eq]
      have hw := width_pos s pos
      have hwn : pos + (Utf8.decode s pos).2 ≤ s.size := by
        have := decodeN_le_n' (s.size - pos) (s.get! pos).toNat (s.get! (pos + 1)).toNat (s.get! (pos + 2)).toNat (s.get! (pos + 3)).toNat (by omega)
        rw [← decode_at] at this
        omega
      simp only [spansFromP, if_pos hlt]
      rcases dec_gap s pos hlt with ⟨g1, g2, g3⟩ | ⟨g1, g2⟩
      · rw [g1, g2]
        simp only [if_true]
        have hdc : s.data.toList.drop pos = s.data.toList.getD pos 0 :: s.data.toList.drop (pos + 1) := by
          rw [List.drop_eq_getElem_cons (by omega), List.getD_eq_getElem?_getD, List.getElem?_eq_getElem (by omega)]
          rfl
        rw [hdc, wordsL, g3, if_pos rfl]
        cases st with
        | none =>
          have ih := spans_words s f (pos + 1) none acc (by omega) (by omega) (fun a h => by cases h)
          simpa [openPiece] using ih
        | some a =>
          have hpn := pieceU_ne s.data.toList a pos (hst a rfl) (by omega)
          have ih := spans_words s f (pos + 1) none (acc ++ [(a, pos)]) (by omega) (by omega) (fun a h => by cases h)
          simpa [openPiece, hpn] using ih
      · rw [g1]
        simp only [Bool.false_eq_true, if_false]
        have hsp : s.data.toList.drop pos = (s.data.toList.drop pos).take (Utf8.decode s pos).2 ++ s.data.toList.drop (pos + (Utf8.decode s pos).2) := by
          rw [← List.drop_drop, List.take_append_drop]
        rw [hsp, wordsL_skip _ _ _ g2]
        cases st with
        | none =>
          have ih := spans_words s f (pos + (Utf8.decode s pos).2) (some pos) acc (by omega) hwn (fun a h => by cases h; omega)
          have e : ([] : List UInt8) ++ (s.data.toList.drop pos).take (Utf8.decode s pos).2 = pieceU s.data.toList pos (pos + (Utf8.decode s pos).2) := by
            unfold pieceU
            rw [List.nil_append, Nat.add_sub_cancel_left]
          simp only [openPiece] at ih ⊢
          rw [e]
          exact ih
        | some a =>
          have ih := spans_words s f (pos + (Utf8.decode s pos).2) (some a) acc (by omega) hwn (fun b h => by cases h; have := hst a rfl; omega)
          have e := pieceU_grow s.data.toList a pos (Utf8.decode s pos).2 (by have := hst a rfl; omega)
          simp only [openPiece] at ih ⊢
          rw [e]
          exact ih
    · obtain rfl : pos = s.size := by omega
      have hd : s.data.toList.drop s.size = [] := List.drop_eq_nil_of_le (by rw [← size_eq]; exact Nat.le_refl _)
      rw [hd, wordsL, spansFromP_end _ _ _ _ _ _ hlt]
      cases st with
      | none => simp [closeSpans, openPiece]
      | some a =>
        have := pieceU_ne s.data.toList a s.size (hst a rfl) (by rw [← size_eq]; exact Nat.le_refl _)
        simp [closeSpans, openPiece, this]
theorem fields_words (l : List UInt8) : (goFieldsP gapR ⟨⟨l⟩⟩).map (fun x => x.data.toList) = wordsL l [] := by
  have h := spans_words ⟨⟨l⟩⟩ l.length 0 none [] (by simp [ByteArray.size]) (Nat.zero_le _) (fun a h => by cases h)
  simp only [List.map_nil, List.nil_append, List.drop_zero, openPiece] at h
  rw [h]
  unfold goFieldsP spansOfP
  rw [List.map_map]
  apply List.map_congr_left
  intro x _
  simp [pieceU, ByteArray.extract, ByteArray.copySlice]
end Go.Am
namespace Go.Proofs.YtephpieeibcihaaGreatDoor
open Go Go.RowKit Go.Lib Go.Proofs Go.Am
set_option maxRecDepth 20000
variable {ng : Nat}
set_option maxHeartbeats 1000000 in
set_option maxRecDepth 100000 in
theorem gap_gives (x : Nat) (hx : x ≤ 1114111) (w : World) : Calls Tryz.prog 257 #[.int .i32 x] w fun e w' => e = .returned (.bool (gapR x)) ∧ ∃ q, w' = w.drewN q := by
  by_cases h1 : (x : Int) = 32
  · have e : gapR x = true := by simp [gapR]; omega
    go_enter Tryz.func257, Tryz.ntmps257
    go_wp2
    go_ret
    exact ⟨by rw [e]; rfl, 0, rfl⟩
  · have e : gapR x = ((x : Int) == 32 || (x : Int) == 10) := by
      rw [Bool.eq_iff_iff]
      simp [gapR]
      omega
    go_enter Tryz.func257, Tryz.ntmps257
    go_wp2
    go_ret
    exact ⟨by rw [e]; rfl, 0, rfl⟩
theorem fieldsFunc_ac {s : List UInt8} {H : Heap} (hs : s.length ≤ 4294967296) : AC Tryz.prog ng 256 [str s, .func (.func 257) #[] #[]] H fun v S' =>
    v = .slice (some ⟨H.length, 0, none⟩) (wordsL s []).length 1 ∧ S' = H ++ [⟨.cells ((wordsL s []).map str).toArray 9 (0, 1), true, true⟩] := by
  have hm : (wordsL s []).map str = (goFieldsP gapR ⟨⟨s⟩⟩).map Value.string := by
    rw [← fields_words, List.map_map]
    apply List.map_congr_left
    intro x _
    rfl
  have hl : (goFieldsP gapR ⟨⟨s⟩⟩).length = ((goFieldsP gapR ⟨⟨s⟩⟩).map Value.string).length := by simp
  rw [show (wordsL s []).length = ((wordsL s []).map str).length by simp, hm]
  refine AC.ofRow (by rfl) (by simp [flat0]) fun w => ?_
  have h := Tryz.strings_FieldsFunc_runes 257 #[] (enters_of Tryz.func257 (by kernel_rfl) rfl) gapR ⟨⟨s⟩⟩ w (by simpa [ByteArray.size] using hs) (fun W x hx _ => gap_gives x hx W)
  rw [hl] at h
  refine Calls.mono h ?_
  rintro ex w' ⟨A, rfl, h1, h2, h3⟩
  exact ⟨A, _, rfl, h1, h2, h3⟩
theorem rep_strs' {H : Heap} : ∀ {l : List (List UInt8)}, (∀ x ∈ l, okS x) → RepL strR H l (l.map str) []
  | [], _ => ⟨rfl, rfl⟩
  | x :: l, h => ⟨[str x], _, [], [], rfl, rfl, ⟨rfl, rfl, h x (by simp)⟩, rep_strs' fun y hy => h y (by simp [hy])⟩
theorem wordsL_num : ∀ (s w : List UInt8), (wordsL s w).length ≤ s.length + 1
  | [], w => by rw [wordsL]; split <;> simp
  | b :: s, w => by
    have h1 := wordsL_num s []
    have h2 := wordsL_num s (w ++ [b])
    rw [wordsL]
    repeat' split
    all_goals simp only [List.length_cons]; omega
theorem word_ac {s : List UInt8} {n : Nat} {H : Heap} (hs : s.length ≤ 2000) : AC Tryz.prog ng 224 [str s, int n] H fun v S' => v = str (wordAt s n) ∧ S' = H := by
  refine .flat (AC.go [] Tryz.func224 rfl Tryz.ntmps224 rfl ⟨mixed, by kernel_rfl⟩ ?_)
  simp +contextual (dsimp := false)
  refine CallK.of ⟨_, Tryz.func256, rfl, rfl⟩ (fieldsFunc_ac (by omega)) ?_
  rintro v S' ⟨rfl, rfl⟩
  simp +contextual (dsimp := false)
  have hok : ∀ x ∈ wordsL s [], okS x := fun x hx => by have := wordsL_len s [] s.length (by simp) x hx; unfold okS; omega
  have hnum := wordsL_num s []
  refine ifA_dec (fun h1 => ?_) (fun h1 => ?_)
  · have hs1 : StrsR true (H ++ [(⟨.cells ((wordsL s []).map str).toArray 9 (0, 1), true, true⟩ : Blk)]) (wordsL s []) [.slice (some ⟨H.length, 0, none⟩) (wordsL s []).length 1] [H.length] :=
      SlR.lit (j := H.length) (c := (wordsL s []).map str) (e := 9) (f := (0, 1)) (o := true) (G := []) (by simp) (rep_strs' hok) (by omega) (fun _ => rfl)
    obtain ⟨id, o, c, e, f, ow, cs, Fi, E⟩ := SlR.get hs1 n h1
    obtain ⟨rfl, rfl, hok'⟩ := E.rep
    have hc0 := E.cell0 (by omega)
    simp +contextual (dsimp := false) [E.idx, E.goB, E.le, hc0]
    simp [wordAt, List.getD, h1]
  · simp [wordAt, List.getD, List.getElem?_eq_none (show (wordsL s []).length ≤ n by omega)]
end Go.Proofs.YtephpieeibcihaaGreatDoor
namespace Go.Proofs.YtephpieeibcihaaGreatDoor
open Go Go.Am Go.Proofs
set_option maxRecDepth 20000
variable {ng : Nat}
theorem compareBytes_eq : ∀ a b : List UInt8, Lib.compareBytes a b = cmpS a b
  | [], [] => rfl
  | [], _ :: _ => rfl
  | _ :: _, [] => rfl
  | a :: x, b :: y => by
    have ih := compareBytes_eq x y
    simp only [Lib.compareBytes, cmpS, ltS, Op.bytesLess] at ih ⊢
    by_cases h1 : a < b
    · simp [h1]
    · by_cases h2 : b < a
      · have : a ≠ b := fun h => by subst h; exact h1 h2
        simp [h1, h2, this]
      · have : a = b := by
          rw [UInt8.lt_iff_toNat_lt] at h1 h2
          exact UInt8.toNat_inj.1 (by omega)
        subst this
        simp [h1, ih]
theorem compare_ac (a b : List UInt8) (H : Heap) : AC Tryz.prog ng 174 [str a, str b] H fun v S' => v = int (cmpS a b) ∧ S' = H := by
  rw [← compareBytes_eq]
  exact AC.ofCalls (by rfl) (by rfl) fun w => Tryz.strings_Compare _ _ w
theorem isName_ac (s : List UInt8) (hs : okS s) (H : Heap) : AC Tryz.prog ng 82 [str s] H fun v S' => v = .bool (nameOk s) ∧ S' = H := by
  unfold okS at hs
  refine .flat (AC.go [] Tryz.func82 rfl Tryz.ntmps82 rfl ⟨mixed, by kernel_rfl⟩ ?_)
  simp +contextual (dsimp := false)
  refine LoopA.up (σ := Nat) [0, 3] (fun i => [(3, int i)]) (fun i => H) (fun i => i ≤ s.length ∧ ∀ y ∈ s.take i, nameB y = true) (fun i => s.length - i) 0 rfl (by simp) ?_
  rintro i ⟨hi, hv⟩
  simp +contextual (dsimp := false)
  refine ifA_dec (fun h3 => ?_) (fun h3 => ?_)
  · simp +contextual (dsimp := false) [h3, wrap_succ (show i < 9223372036854775807 by omega)]
    refine ifA_dec (fun h4 => ?_) (fun h4 => ?_)
    · exact nameOk_bad h3 (by simp [nameB]; omega)
    refine ifA_dec (fun h5 => ?_) (fun h5 => ?_)
    · exact nameOk_bad h3 (by simp [nameB]; omega)
    exact LoopN.of (i + 1) rfl ⟨h3, all_take hv h3 (by simp [nameB]; omega)⟩ (by omega)
  · rw [nameOk_all (all_end hv (by omega))]
    refine ifA_dec (fun h4 => ?_) (fun h4 => ?_)
    · rw [Bool.eq_iff_iff]
      simp only [Bool.and_eq_true, decide_eq_true_eq]
      omega
    · rw [Bool.eq_iff_iff]
      simp only [Bool.and_eq_true, decide_eq_true_eq]
      simp
      omega
theorem l1NameOk_ac (s : List UInt8) (hs : okS s) (H : Heap) : AC Tryz.prog ng 58 [str s] H fun v S' => v = .bool (nameOk s) ∧ S' = H := by
  unfold okS at hs
  refine .flat (AC.go [] Tryz.func58 rfl Tryz.ntmps58 rfl ⟨mixed, by kernel_rfl⟩ ?_)
  simp +contextual (dsimp := false)
  refine ifA_dec (fun h1 => ?_) (fun h1 => ?_)
  · simp [nameOk]
    omega
  refine ifA_dec (fun h2 => ?_) (fun h2 => ?_)
  · simp [nameOk]
    omega
  refine LoopA.up (σ := Nat) [0, 3] (fun i => [(3, int i)]) (fun i => H) (fun i => i ≤ s.length ∧ ∀ y ∈ s.take i, nameB y = true) (fun i => s.length - i) 0 rfl (by simp) ?_
  rintro i ⟨hi, hv⟩
  simp +contextual (dsimp := false)
  refine ifA_dec (fun h3 => ?_) (fun h3 => ?_)
  · simp +contextual (dsimp := false) [h3, wrap_succ (show i < 9223372036854775807 by omega)]
    refine ifA_dec (fun h4 => ?_) (fun h4 => ?_)
    · exact nameOk_bad h3 (by simp [nameB]; omega)
    refine ifA_dec (fun h5 => ?_) (fun h5 => ?_)
    · exact nameOk_bad h3 (by simp [nameB]; omega)
    exact LoopN.of (i + 1) rfl ⟨h3, all_take hv h3 (by simp [nameB]; omega)⟩ (by omega)
  · rw [nameOk_all (all_end hv (by omega))]
    simp
    omega
theorem targetF_ac {own : Bool} {x : Tgt} {c : List Value} {F : List Nat} {H : Heap} (h : TgtR own H x c F) (n : List UInt8) : AC Tryz.prog ng 173 [.agg c.toArray, str n] H fun v S' => v = int (cmpS x.name n) ∧ S' = H := by
  obtain ⟨hk, s1, rfl, hc1⟩ := h
  obtain ⟨a1, z1, rfl⟩ := hc1.form
  refine .flat (AC.go [] Tryz.func173 rfl Tryz.ntmps173 rfl ⟨mixed, by kernel_rfl⟩ ?_)
  simp +contextual (dsimp := false)
  refine CallK.fl ⟨_, Tryz.func174, rfl, rfl⟩ (compare_ac _ _ _) ?_
  simp +contextual (dsimp := false)
theorem sourceF_ac (x : Sou) (n : List UInt8) (H : Heap) : AC Tryz.prog ng 177 [.agg x.c.toArray, str n] H fun v S' => v = int (cmpS x.name n) ∧ S' = H := by
  refine .flat (AC.go [] Tryz.func177 rfl Tryz.ntmps177 rfl ⟨mixed, by kernel_rfl⟩ ?_)
  simp +contextual (dsimp := false) [Sou.c]
  refine CallK.fl ⟨_, Tryz.func174, rfl, rfl⟩ (compare_ac _ _ _) ?_
  simp +contextual (dsimp := false)
theorem bsT_ac {own : Bool} {l : List Tgt} {s : Value} {F : List Nat} {H : Heap} (hs : TgtsR own H l [s] F) (n : List UInt8) : AC Tryz.prog ng 172 [s, str n, .func (.func 173) #[] #[]] H fun v S' =>
    v = .tuple #[int (bsP (l.map (·.name)) n), .bool (bsF (l.map (·.name)) n)] ∧ S' = H := by
  obtain ⟨a, z, rfl⟩ := hs.form
  have hb := hs.bound
  have hd : ∀ h (hh : h < l.length), (l.map (·.name)).getD h [] = l[h].name := fun h hh => by simp [List.getD, hh]
  refine .flat (AC.go [] Tryz.func172 rfl Tryz.ntmps172 rfl ⟨mixed, by kernel_rfl⟩ ?_)
  simp +contextual (dsimp := false)
  refine LoopA.up (σ := Nat × Nat) [0, 1, 2, 8, 9, 10] (fun x => [(9, int x.1), (10, int x.2)]) (fun i => H)
    (fun x => x.1 ≤ x.2 ∧ x.2 ≤ l.length ∧ bsI (fun h => ltS ((l.map (·.name)).getD h []) n) x.1 x.2 = bsP (l.map (·.name)) n) (fun x => x.2 - x.1) (0, l.length) rfl (by simp [bsP]) ?_
  rintro ⟨i, j⟩ ⟨hij, hj, hv⟩
  dsimp only at hij hj hv
  simp +contextual (dsimp := false)
  refine ifA_dec (fun h3 => ?_) (fun h3 => ?_)
  · have hw1 : IntKind.i64.wrap ((i : Int) + j) = ((i + j : Nat) : Int) := (wrap_of ((i : Int) + j) (by omega) (by omega)).trans (by omega)
    have hw2 : IntKind.u64.wrap (((i + j : Nat) : Int)) = ((i + j : Nat) : Int) := by rw [IntKind.wrap_u64]; omega
    have hq : ((i + j : Nat) : Int) / 2 = (((i + j) / 2 : Nat) : Int) := by omega
    have hw3 : IntKind.i64.wrap ((((i + j) / 2 : Nat) : Int)) = (((i + j) / 2 : Nat) : Int) := wrap_nat (by omega)
    have hs2 : bin? Tryz.prog .shr 237 (.tmp 21) (.const (.int .u64 1)) (.int .u64 ((i + j : Nat) : Int)) (.int .u64 1) = some (.int .u64 (((i + j) / 2 : Nat) : Int)) := by rw [bin_shrU (by omega) (by omega), hq]
    generalize hm : (i + j) / 2 = m at *
    obtain ⟨id, o, c, e, f, ow, cs, Fi, E⟩ := SlR.get hs m (by omega)
    have hrep := E.rep
    obtain ⟨hk, s1, rfl, hc1⟩ := E.rep
    simp +contextual (dsimp := false) [-Int.natCast_add, hw1, hw2, hs2, hw3, E.idx, E.goB, E.le, E.lt, E.ext]
    refine CallK.fl ⟨_, Tryz.func173, rfl, rfl⟩ (targetF_ac hrep n) ?_
    simp +contextual (dsimp := false) [cmpS_lt]
    have hlt : ltS ((l.map (·.name)).getD ((i + j) / 2) []) n = ltS l[m].name n := by rw [hm, hd m (by omega)]
    refine ifA_intro (fun h4 => ?_) (fun h4 => ?_)
    · refine LoopN.of (m + 1, j) ?_ ⟨by dsimp only; omega, hj, ?_⟩ (by dsimp only; omega)
      · rw [wrap_succ (by omega)]
        rfl
      · dsimp only
        rw [← hv, bsI_up _ h3 (by rw [hlt]; exact h4), hm]
    · refine LoopN.of (i, m) rfl ⟨by dsimp only; omega, by dsimp only; omega, ?_⟩ (by dsimp only; omega)
      dsimp only
      rw [← hv, bsI_down _ h3 (by rw [hlt]; exact h4), hm]
  · obtain rfl : i = j := by omega
    rw [bsI_stop _ (by omega)] at hv
    refine ifA_dec (fun h4 => ?_) (fun h4 => ?_)
    · obtain ⟨id, o, c, e, f, ow, cs, Fi, E⟩ := SlR.get hs i h4
      have hrep := E.rep
      obtain ⟨hk, s1, rfl, hc1⟩ := E.rep
      simp +contextual (dsimp := false) [h4, E.idx, E.goB, E.le, E.lt, E.ext]
      refine CallK.fl ⟨_, Tryz.func173, rfl, rfl⟩ (targetF_ac hrep n) ?_
      simp +contextual (dsimp := false) [cmpS_z]
      simp [bsF, ← hv, hd i h4, h4]
    · simp [bsF, ← hv]
      intro h; omega
theorem bsS_ac {own : Bool} {l : List Sou} {s : Value} {F : List Nat} {H : Heap} (hs : SousR own H l [s] F) (n : List UInt8) : AC Tryz.prog ng 176 [s, str n, .func (.func 177) #[] #[]] H fun v S' =>
    v = .tuple #[int (bsP (l.map (·.name)) n), .bool (bsF (l.map (·.name)) n)] ∧ S' = H := by
  obtain ⟨a, z, rfl⟩ := hs.form
  have hb := hs.bound
  have hd : ∀ h (hh : h < l.length), (l.map (·.name)).getD h [] = l[h].name := fun h hh => by simp [List.getD, hh]
  refine .flat (AC.go [] Tryz.func176 rfl Tryz.ntmps176 rfl ⟨mixed, by kernel_rfl⟩ ?_)
  simp +contextual (dsimp := false)
  refine LoopA.up (σ := Nat × Nat) [0, 1, 2, 8, 9, 10] (fun x => [(9, int x.1), (10, int x.2)]) (fun i => H)
    (fun x => x.1 ≤ x.2 ∧ x.2 ≤ l.length ∧ bsI (fun h => ltS ((l.map (·.name)).getD h []) n) x.1 x.2 = bsP (l.map (·.name)) n) (fun x => x.2 - x.1) (0, l.length) rfl (by simp [bsP]) ?_
  rintro ⟨i, j⟩ ⟨hij, hj, hv⟩
  dsimp only at hij hj hv
  simp +contextual (dsimp := false)
  refine ifA_dec (fun h3 => ?_) (fun h3 => ?_)
  · have hw1 : IntKind.i64.wrap ((i : Int) + j) = ((i + j : Nat) : Int) := (wrap_of ((i : Int) + j) (by omega) (by omega)).trans (by omega)
    have hw2 : IntKind.u64.wrap (((i + j : Nat) : Int)) = ((i + j : Nat) : Int) := by rw [IntKind.wrap_u64]; omega
    have hq : ((i + j : Nat) : Int) / 2 = (((i + j) / 2 : Nat) : Int) := by omega
    have hw3 : IntKind.i64.wrap ((((i + j) / 2 : Nat) : Int)) = (((i + j) / 2 : Nat) : Int) := wrap_nat (by omega)
    have hs2 : bin? Tryz.prog .shr 237 (.tmp 21) (.const (.int .u64 1)) (.int .u64 ((i + j : Nat) : Int)) (.int .u64 1) = some (.int .u64 (((i + j) / 2 : Nat) : Int)) := by rw [bin_shrU (by omega) (by omega), hq]
    generalize hm : (i + j) / 2 = m at *
    obtain ⟨id, o, c, e, f, ow, cs, Fi, E⟩ := SlR.get hs m (by omega)
    obtain ⟨rfl, rfl, hok⟩ := E.rep
    simp +contextual (dsimp := false) [-Int.natCast_add, hw1, hw2, hs2, hw3, E.idx, E.goB, E.le, E.lt, E.ext]
    refine CallK.fl ⟨_, Tryz.func177, rfl, rfl⟩ (sourceF_ac l[m] n _) ?_
    simp +contextual (dsimp := false) [cmpS_lt]
    have hlt : ltS ((l.map (·.name)).getD ((i + j) / 2) []) n = ltS l[m].name n := by rw [hm, hd m (by omega)]
    refine ifA_intro (fun h4 => ?_) (fun h4 => ?_)
    · refine LoopN.of (m + 1, j) ?_ ⟨by dsimp only; omega, hj, ?_⟩ (by dsimp only; omega)
      · rw [wrap_succ (by omega)]
        rfl
      · dsimp only
        rw [← hv, bsI_up _ h3 (by rw [hlt]; exact h4), hm]
    · refine LoopN.of (i, m) rfl ⟨by dsimp only; omega, by dsimp only; omega, ?_⟩ (by dsimp only; omega)
      dsimp only
      rw [← hv, bsI_down _ h3 (by rw [hlt]; exact h4), hm]
  · obtain rfl : i = j := by omega
    rw [bsI_stop _ (by omega)] at hv
    refine ifA_dec (fun h4 => ?_) (fun h4 => ?_)
    · obtain ⟨id, o, c, e, f, ow, cs, Fi, E⟩ := SlR.get hs i h4
      obtain ⟨rfl, rfl, hok⟩ := E.rep
      simp +contextual (dsimp := false) [h4, E.idx, E.goB, E.le, E.lt, E.ext]
      refine CallK.fl ⟨_, Tryz.func177, rfl, rfl⟩ (sourceF_ac l[i] n _) ?_
      simp +contextual (dsimp := false) [cmpS_z]
      simp [bsF, ← hv, hd i h4, h4]
    · simp [bsF, ← hv]
      intro h; omega
theorem target_ac {own : Bool} {x : Spc} {c : List Value} {F : List Nat} {H : Heap} (h : SpcR own H x c F) (n : List UInt8) : AC Tryz.prog ng 119 [.agg c.toArray, str n] H fun v S' => v = .tuple #[int (bsP (tNames x) n), .bool (bsF (tNames x) n)] ∧ S' = H := by
  obtain ⟨s1, s2, G1, G2, rfl, rfl, hc1, hc2⟩ := h
  obtain ⟨a1, z1, rfl⟩ := hc1.form
  obtain ⟨a2, z2, rfl⟩ := hc2.form
  refine .flat (AC.go [] Tryz.func119 rfl Tryz.ntmps119 rfl ⟨mixed, by kernel_rfl⟩ ?_)
  simp +contextual (dsimp := false)
  refine CallK.fl ⟨_, Tryz.func172, rfl, rfl⟩ (bsT_ac (Rp.ext hc2 (Ext.app _ _)) n) ?_
  simp +contextual (dsimp := false) [tNames]
theorem source_ac {own : Bool} {x : Spc} {c : List Value} {F : List Nat} {H : Heap} (h : SpcR own H x c F) (n : List UInt8) : AC Tryz.prog ng 127 [.agg c.toArray, str n] H fun v S' => v = .tuple #[int (bsP (sNames x) n), .bool (bsF (sNames x) n)] ∧ S' = H := by
  obtain ⟨s1, s2, G1, G2, rfl, rfl, hc1, hc2⟩ := h
  obtain ⟨a1, z1, rfl⟩ := hc1.form
  obtain ⟨a2, z2, rfl⟩ := hc2.form
  refine .flat (AC.go [] Tryz.func127 rfl Tryz.ntmps127 rfl ⟨mixed, by kernel_rfl⟩ ?_)
  simp +contextual (dsimp := false)
  refine CallK.fl ⟨_, Tryz.func176, rfl, rfl⟩ (bsS_ac (Rp.ext hc1 (Ext.app _ _)) n) ?_
  simp +contextual (dsimp := false) [sNames]
end Go.Proofs.YtephpieeibcihaaGreatDoor

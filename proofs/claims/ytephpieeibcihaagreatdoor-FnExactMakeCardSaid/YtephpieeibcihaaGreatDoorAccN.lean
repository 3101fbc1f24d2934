import Derived.Test.YtephpieeibcihaaGreatDoorAcc
import Derived.Test.YtephpieeibcihaaGreatDoorNam
import Derived.Test.YtephpieeibcihaaGreatDoorChk
import Derived.Test.YtephpieeibcihaaGreatDoorAm23
set_option linter.all false
namespace Go.Proofs.YtephpieeibcihaaGreatDoor
open Go Go.Am Go.Proofs
set_option maxRecDepth 20000
variable {ng : Nat}
end Go.Proofs.YtephpieeibcihaaGreatDoor
namespace Go.Proofs.YtephpieeibcihaaGreatDoor
open Go Go.Am Go.Proofs
set_option maxRecDepth 20000
variable {ng : Nat}
end Go.Proofs.YtephpieeibcihaaGreatDoor
namespace Go.Proofs.YtephpieeibcihaaGreatDoor
open Go Go.Am Go.Proofs
set_option maxRecDepth 20000
variable {ng : Nat}
abbrev kI : Int → Value := fun k => .int .i64 k
def vI (l : List (Int × Int)) : List (Int × Value) := l.map fun p => (p.1, int p.2)
theorem putP_new {κ : Type} [DecidableEq κ] (a : κ) (v : Value) : ∀ (l : List (κ × Value)), a ∉ l.map (·.1) → putP a v l = l ++ [(a, v)]
  | [], _ => rfl
  | p :: l, h => by
    simp only [List.map_cons, List.mem_cons, not_or] at h
    rw [putP, if_neg h.1, putP_new a v l h.2]
    rfl
theorem getP_none {κ : Type} [DecidableEq κ] (a : κ) : ∀ (l : List (κ × Value)), (getP a l = none) ↔ a ∉ l.map (·.1)
  | [] => by simp [getP_nil]
  | p :: l => by
    rw [getP_cons]
    by_cases h : a = p.1
    · simp [h]
    · rw [if_neg h, getP_none a l]
      simp [h]
structure WalkS (own : Bool) (H : Heap) (ds : List Deed) (sd : Value) (FD : List Nat) (pd pb pw po m base : Nat) (st : List (Int × Int) × List Int) (s : Value) (F : List Nat) : Prop where
  bd : H[pd]? = some ⟨.cells #[.map (some m)] 232 (0, 0), true, true⟩
  bb : H[pb]? = some ⟨.cells #[sd] 56 (0, 0), true, true⟩
  bw : H[pw]? = some ⟨.cells #[.func (.func 197) #[] #[.pointer (some ⟨pd, 0, none⟩), .pointer (some ⟨pb, 0, none⟩), .pointer (some ⟨pw, 0, none⟩), .pointer (some ⟨po, 0, none⟩)]] 265 (0, 0), true, true⟩
  bo : H[po]? = some ⟨.cells #[s] 71 (0, 0), true, true⟩
  mp : MapR kI H m (vI st.1)
  ord : IntsR true H st.2 [s] F
  fr : Fresh base F
  le : pd < base ∧ pb < base ∧ pw < base ∧ po < base ∧ m < base ∧ base ≤ H.length
  ne : m ≠ pd ∧ m ≠ pb ∧ m ≠ pw ∧ m ≠ po ∧ po ≠ pd ∧ po ≠ pb ∧ po ≠ pw
  dd : DeedsR own H ds [sd] FD
  df : ∀ j ∈ FD, j < base ∧ j ≠ m ∧ j ≠ po
theorem WalkS.ext {own : Bool} {H : Heap} {ds : List Deed} {sd : Value} {FD : List Nat} {pd pb pw po m base : Nat} {st : List (Int × Int) × List Int} {s : Value} {F : List Nat} (W : WalkS own H ds sd FD pd pb pw po m base st s F) {H' : Heap} (he : Ext H H') : WalkS own H' ds sd FD pd pb pw po m base st s F := by
  obtain ⟨h1, h2, h3, h4, h5, h6⟩ := W.le
  have hle := he.le
  exact ⟨(he _ (by omega)).trans W.bd, (he _ (by omega)).trans W.bb, (he _ (by omega)).trans W.bw, (he _ (by omega)).trans W.bo, W.mp.fr (he _ (by omega)), Rp.ext W.ord he, W.fr, ⟨h1, h2, h3, h4, h5, by omega⟩, W.ne, Rp.ext W.dd he, W.df⟩
end Go.Proofs.YtephpieeibcihaaGreatDoor
namespace Go.Proofs.YtephpieeibcihaaGreatDoor
open Go Go.Am Go.Proofs
set_option maxRecDepth 20000
variable {ng : Nat}
abbrev kS : List UInt8 → Value := fun s => .string ⟨⟨s⟩⟩
end Go.Proofs.YtephpieeibcihaaGreatDoor
namespace Go.Proofs.YtephpieeibcihaaGreatDoor
open Go Go.Am Go.Proofs
set_option maxRecDepth 20000
variable {ng : Nat}
abbrev BoolsR (own : Bool) : RepT (List Bool) := SlR own 1 boolR
def metL (n : Nat) (vis : List (Int × Int)) : List Bool := (List.range n).map fun (j : Nat) => decide ((j : Int) ∈ vis.map (·.1))
def deepS (ds : List Deed) (m : Int) (p : Int × Int) : Int := if (dAt ds p.1.toNat).kind = 3 ∧ 60 ≤ p.2 ∧ (m < 0 ∨ p.1 < m) then p.1 else m
def deepM (ds : List Deed) (vis : List (Int × Int)) : Int := vis.foldl (deepS ds) (-1)
structure ListS (own : Bool) (H : Heap) (ds : List Deed) (sd : Value) (FD : List Nat) (ph base : Nat) (sl : Value) (Fl : List Nat) (st : List (Int × Int) × List Int) (so : Value) (Fo : List Nat) : Prop where
  bh : H[ph]? = some ⟨.cells #[sd, sl, so, .int .i64 (deepM ds st.1)] 230 (0, 0), true, true⟩
  ls : BoolsR true H (metL ds.length st.1) [sl] Fl
  fl : Fl.Nodup ∧ ∀ j ∈ Fl, j < base ∧ j ≠ ph
  ord : IntsR true H st.2 [so] Fo
  fr : Fresh base Fo
  le : ph < base ∧ base ≤ H.length
  dd : DeedsR own H ds [sd] FD
  df : ∀ j ∈ FD, j < base ∧ j ≠ ph ∧ j ∉ Fl
theorem ListS.ext {own : Bool} {H : Heap} {ds : List Deed} {sd : Value} {FD : List Nat} {ph base : Nat} {sl : Value} {Fl : List Nat} {st : List (Int × Int) × List Int} {so : Value} {Fo : List Nat} (W : ListS own H ds sd FD ph base sl Fl st so Fo) {H' : Heap} (he : Ext H H') : ListS own H' ds sd FD ph base sl Fl st so Fo := by
  obtain ⟨h1, h2⟩ := W.le
  have := he.le
  exact ⟨(he _ (by omega)).trans W.bh, Rp.ext W.ls he, W.fl, Rp.ext W.ord he, W.fr, ⟨h1, by omega⟩, Rp.ext W.dd he, W.df⟩
theorem _root_.Go.Am.LOk.push {n : Nat} {st : List (Int × Int) × List Int} (hok : LOk n st) {i : Nat} {d : Int} (hi : i < n) (hm : (i : Int) ∉ st.1.map (·.1)) : LOk n (st.1 ++ [((i : Int), d)], st.2) := by
  refine ⟨?_, ?_, ?_, ?_, hok.nd2⟩
  · rw [List.map_append, List.nodup_append]
    refine ⟨hok.nd, by simp, fun a ha b hb hab => hm ?_⟩
    simp at hb
    rw [← hb, ← hab]
    exact ha
  · intro p hp
    rcases List.mem_append.1 hp with hp | hp
    · exact hok.lt p hp
    · simp at hp
      subst hp
      exact ⟨by simp, by simpa using hi⟩
  · intro k hk
    rw [List.map_append]
    exact List.mem_append_left _ (hok.sub k hk)
  · have := hok.len
    simp only [List.length_append, List.length_singleton]
    omega
end Go.Proofs.YtephpieeibcihaaGreatDoor
namespace Go.Proofs.YtephpieeibcihaaGreatDoor
open Go Go.Am Go.Proofs
set_option maxRecDepth 20000
variable {ng : Nat}
end Go.Proofs.YtephpieeibcihaaGreatDoor

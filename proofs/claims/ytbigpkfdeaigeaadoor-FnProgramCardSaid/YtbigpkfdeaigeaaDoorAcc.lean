/- What CheckAccount computes. No condition. -/
import Derived.Test.YtbigpkfdeaigeaaDoorSpec
import Derived.Test.YtbigpkfdeaigeaaDoorAm27
namespace Go.Am
open Go
set_option linter.unusedSimpArgs false
set_option linter.unusedVariables false

/-- The first number below n with a property. -/
def firstI (n : Nat) (p : Nat → Bool) : Option Nat := (List.range n).find? p
theorem firstI_hit {n i : Nat} {p : Nat → Bool} (h : i < n) (hp : p i = true) (hb : ∀ j, j < i → p j = false) : firstI n p = some i := by
  unfold firstI
  rw [List.find?_eq_some_iff_getElem]
  refine ⟨hp, i, by simpa using h, by simp, fun j hj => by simp [hb j hj]⟩
theorem firstI_none {n : Nat} {p : Nat → Bool} (hb : ∀ j, j < n → p j = false) : firstI n p = none := by
  unfold firstI
  rw [List.find?_eq_none]
  intro x hx
  simp [hb x (List.mem_range.1 hx)]
theorem firstI_some {n i : Nat} {p : Nat → Bool} (h : firstI n p = some i) : i < n ∧ p i = true ∧ ∀ j, j < i → p j = false := by
  unfold firstI at h
  rw [List.find?_eq_some_iff_getElem] at h
  obtain ⟨h1, k, hk, h2, h3⟩ := h
  simp at h2 hk
  subst h2
  exact ⟨hk, h1, fun j hj => by have := h3 j hj; simpa using this⟩
def dAt (ds : List Deed) (i : Nat) : Deed := ds.getD i Deed.zero
/-- The deeds, listed from one on: who was met, and how deep; the order. -/
def dfs (ds : List Deed) : Nat → Nat → Int → (List (Int × Int) × List Int) → (List (Int × Int) × List Int)
  | 0, _, _, st => st
  | f + 1, i, d, st =>
    if (i : Int) ∈ st.1.map (·.1) then st else
      let st2 := (dAt ds i).links.foldl (fun s l => if l.ask then dfs ds f l.at_.toNat (d + 1) s else s) (st.1 ++ [((i : Int), d)], st.2)
      (st2.1, st2.2 ++ [(i : Int)])
def listing (ds : List Deed) (root : Nat) : List (Int × Int) × List Int := dfs ds ds.length root 0 ([], [])
theorem nodup_sub_len {α : Type} [DecidableEq α] : ∀ (u L : List α), u.Nodup → (∀ k ∈ u, k ∈ L) → u.length ≤ L.length
  | [], _, _, _ => Nat.zero_le _
  | a :: u, L, hn, hs => by
    have hn' := List.nodup_cons.1 hn
    have ha := hs a (by simp)
    have ih := nodup_sub_len u (L.erase a) hn'.2 fun k hk => (List.mem_erase_of_ne (by rintro rfl; exact hn'.1 hk)).2 (hs k (by simp [hk]))
    rw [List.length_erase_of_mem ha] at ih
    have := List.length_pos_of_mem ha
    simp only [List.length_cons]
    omega
/-! ### The listing -/
/-- What holds of a listing: each is met once; all that are in the order were met. -/
structure LOk (n : Nat) (st : List (Int × Int) × List Int) : Prop where
  nd : (st.1.map (·.1)).Nodup
  lt : ∀ p ∈ st.1, 0 ≤ p.1 ∧ p.1 < n
  sub : ∀ k ∈ st.2, k ∈ st.1.map (·.1)
  len : st.2.length ≤ st.1.length
  nd2 : st.2.Nodup
/-- The links of a deed go to earlier ones. -/
def back (ds : List Deed) : Prop := ∀ i, i < ds.length → ∀ l ∈ (dAt ds i).links, l.ask = true → 0 ≤ l.at_ ∧ l.at_ < i
theorem LOk.bound {n : Nat} {st : List (Int × Int) × List Int} (ho : LOk n st) : st.1.length ≤ n ∧ st.2.length ≤ n := by
  have h1 := ho.len
  have h2 : ((st.1.map (·.1)).map Int.toNat).length ≤ (List.range n).length := nodup_sub_len _ _ (by
    refine List.Pairwise.map _ (fun a b hab => ?_) (List.Pairwise.and_mem.1 ho.nd)
    obtain ⟨ha, hb', hne⟩ := hab
    obtain ⟨p, hp, rfl⟩ := List.mem_map.1 ha
    obtain ⟨q, hq, rfl⟩ := List.mem_map.1 hb'
    have := ho.lt p hp
    have := ho.lt q hq
    omega) (fun k hk => by
    obtain ⟨a, ha, rfl⟩ := List.mem_map.1 hk
    obtain ⟨p, hp, rfl⟩ := List.mem_map.1 ha
    have := ho.lt p hp
    exact List.mem_range.2 (by omega))
  simp at h2
  omega
theorem LOk.start (n : Nat) : LOk n ([], []) := ⟨by simp, by simp, by simp, by simp, by simp⟩
end Go.Am

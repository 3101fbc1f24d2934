import Derived.Test.YtephpieeibcihaaGreatDoorMch
import Derived.Test.YtephpieeibcihaaGreatDoorAm27
set_option linter.all false
namespace Go.Am
open Go
def firstI (n : Nat) (p : Nat → Bool) : Option Nat := (List.range n).find? p
theorem firstI_hit {n i : Nat} {p : Nat → Bool} (h : i < n) (hp : p i = true) (hb : ∀ j, j < i → p j = false) : firstI n p = some i := by
  unfold firstI
  rw [List.find?_eq_some_iff_getElem]
  refine ⟨hp, i, by simpa using h, by simp, fun j hj => by simp [hb j hj]⟩
theorem firstI_none {n : Nat} {p : Nat → Bool} (hb : ∀ j, j < n → p j = false) : firstI n p = none := by
  unfold firstI
  rw [List.find?_eq_none]
  intro x hx
  simp [hb x (List.mem_range.1 hx)]
def dAt (ds : List Deed) (i : Nat) : Deed := ds.getD i Deed.zero
theorem dAt_lt {ds : List Deed} {i : Nat} (h : i < ds.length) : dAt ds i = ds[i] := by simp [dAt, List.getD, h]
def linkOk (ds : List Deed) (i : Nat) (l : Lnk) : Bool :=
  nameOk l.name && (if l.ask then !l.has && decide (0 ≤ l.at_) && decide (l.at_ < i) && decide ((dAt ds l.at_.toNat).name = l.name) else decide (l.at_ = 0))
def plainD (d : Deed) : Bool := decide (d.code = 0) && decide (d.action.length = 0) && decide (d.links.length = 0)
def deedOk (ds : List Deed) (i : Nat) (d : Deed) : Bool :=
  nameOk d.name && decide (d.text.length ≤ 2000) &&
    (if d.kind = 1 then plainD d else if d.kind = 2 then plainD d && decide (d.text = []) else if d.kind = 3 then decide (0 ≤ d.code) && decide (d.code ≤ 5) && validP d.action && decide (d.links.length ≤ 200) && d.links.all (linkOk ds i) else false)
def dfs (ds : List Deed) : Nat → Nat → Int → (List (Int × Int) × List Int) → (List (Int × Int) × List Int)
  | 0, _, _, st => st
  | f + 1, i, d, st =>
    if (i : Int) ∈ st.1.map (·.1) then st else
      let st2 := (dAt ds i).links.foldl (fun s l => if l.ask then dfs ds f l.at_.toNat (d + 1) s else s) (st.1 ++ [((i : Int), d)], st.2)
      (st2.1, st2.2 ++ [(i : Int)])
def dup (ds : List Deed) (i : Nat) : Bool := decide ((dAt ds i).name ∈ (ds.take i).map (·.name))
def tooDeep (ds : List Deed) (vis : List (Int × Int)) (i : Nat) : Bool := decide ((dAt ds i).kind = 3) && decide (∃ p ∈ vis, p.1 = (i : Int) ∧ 60 ≤ p.2)
def listing (ds : List Deed) (root : Nat) : List (Int × Int) × List Int := dfs ds ds.length root 0 ([], [])
def checkAcc (ds : List Deed) : Int × Int :=
  if ds.length = 0 ∨ 400 < ds.length then (1, 0) else
  match firstI ds.length fun i => !deedOk ds i (dAt ds i) with
  | some i => (2, i)
  | none => match firstI ds.length (dup ds) with
    | some i => (3, i)
    | none => match firstI (listing ds (ds.length - 1)).2.length fun i => !decide ((listing ds (ds.length - 1)).2.getD i 0 = i) with
      | some i => (4, i)
      | none => match firstI ds.length (tooDeep ds (listing ds (ds.length - 1)).1) with
        | some i => (5, i)
        | none => (0, 0)
def accOk (ds : List Deed) : Bool := decide ((checkAcc ds).1 = 0)
theorem nodup_sub_len {α : Type} [DecidableEq α] : ∀ (u L : List α), u.Nodup → (∀ k ∈ u, k ∈ L) → u.length ≤ L.length
  | [], _, _, _ => Nat.zero_le _
  | a :: u, L, hn, hs => by
    have hn' := List.nodup_cons.1 hn
    have ha := hs a (by simp)
    have ih := nodup_sub_len u (L.erase a) hn'.2 fun k hk => (List.mem_erase_of_ne (by rintro rfl; exact hn'.1 hk)).2 (hs k (by simp [hk]))
    rw [List.length_erase_of_mem ha] at ih
    have := List.length_pos_of_mem ha
    simp only [List.length_cons]
    omega
structure LOk (n : Nat) (st : List (Int × Int) × List Int) : Prop where
  nd : (st.1.map (·.1)).Nodup
  lt : ∀ p ∈ st.1, 0 ≤ p.1 ∧ p.1 < n
  sub : ∀ k ∈ st.2, k ∈ st.1.map (·.1)
  len : st.2.length ≤ st.1.length
  nd2 : st.2.Nodup
def back (ds : List Deed) : Prop := ∀ i, i < ds.length → ∀ l ∈ (dAt ds i).links, l.ask = true → 0 ≤ l.at_ ∧ l.at_ < i
theorem deedOk_back {ds : List Deed} (h : ∀ i, i < ds.length → deedOk ds i (dAt ds i) = true) : back ds := by
  intro i hi l hl ha
  have := h i hi
  simp only [deedOk, Bool.and_eq_true] at this
  obtain ⟨_, h3⟩ := this
  split at h3
  · simp only [plainD, Bool.and_eq_true, decide_eq_true_eq] at h3
    rw [List.eq_nil_of_length_eq_zero h3.2] at hl
    cases hl
  · split at h3
    · simp only [plainD, Bool.and_eq_true, decide_eq_true_eq] at h3
      rw [List.eq_nil_of_length_eq_zero h3.1.2] at hl
      cases hl
    · split at h3
      · simp only [Bool.and_eq_true] at h3
        have h4 := List.all_eq_true.1 h3.2 l hl
        simp only [linkOk, Bool.and_eq_true, ha, if_true, decide_eq_true_eq] at h4
        exact ⟨h4.2.1.1.2, h4.2.1.2⟩
      · cases h3
theorem LOk.bound {n : Nat} {st : List (Int × Int) × List Int} (ho : LOk n st) : st.1.length ≤ n ∧ st.2.length ≤ n := by
  have h1 := ho.len
  have h2 : ((st.1.map (·.1)).map Int.toNat).length ≤ (List.range n).length := nodup_sub_len _ _ (by
    refine List.Pairwise.map _ (fun a b hab => ?_) (List.Pairwise.and_mem.1 ho.nd)
    obtain ⟨ha, hb', hne⟩ := hab
    obtain ⟨p, hp, rfl⟩ := List.mem_map.1 ha
    obtain ⟨q, hq, rfl⟩ := List.mem_map.1 hb'
    have := ho.lt p hp
    have := ho.lt q hq
    omega) (fun k hk => by
    obtain ⟨a, ha, rfl⟩ := List.mem_map.1 hk
    obtain ⟨p, hp, rfl⟩ := List.mem_map.1 ha
    have := ho.lt p hp
    exact List.mem_range.2 (by omega))
  simp at h2
  omega
theorem LOk.start (n : Nat) : LOk n ([], []) := ⟨by simp, by simp, by simp, by simp, by simp⟩
theorem checkAcc_n2 {ds : List Deed} (hv : ∀ j (hj : j < ds.length), deedOk ds j ds[j] = true) : (firstI ds.length fun i => !deedOk ds i (dAt ds i)) = none :=
  firstI_none fun j hj => by simp [dAt_lt hj, hv j hj]
theorem dup_eq {ds : List Deed} {i : Nat} (hi : i < ds.length) : dup ds i = decide (ds[i].name ∈ (ds.take i).map (·.name)) := by simp [dup, dAt_lt hi]
theorem checkAcc_n3 {ds : List Deed} (hn : ∀ j (hj : j < ds.length), ds[j].name ∉ (ds.take j).map (·.name)) : firstI ds.length (dup ds) = none :=
  firstI_none fun j hj => by rw [dup_eq hj]; simp only [decide_eq_false_iff_not]; exact hn j hj
theorem checkAcc_n4 {ds : List Deed} (ho : ∀ j (hj : j < (listing ds (ds.length - 1)).2.length), (listing ds (ds.length - 1)).2[j] = j) : (firstI (listing ds (ds.length - 1)).2.length fun i => !decide ((listing ds (ds.length - 1)).2.getD i 0 = i)) = none :=
  firstI_none fun j hj => by simp [List.getD, hj]; exact ho j hj
theorem checkAcc_5 {ds : List Deed} (h : ¬ (ds.length = 0 ∨ 400 < ds.length)) (hv : ∀ j (hj : j < ds.length), deedOk ds j ds[j] = true) (hn : ∀ j (hj : j < ds.length), ds[j].name ∉ (ds.take j).map (·.name))
    (ho : ∀ j (hj : j < (listing ds (ds.length - 1)).2.length), (listing ds (ds.length - 1)).2[j] = j) : checkAcc ds = (match firstI ds.length (tooDeep ds (listing ds (ds.length - 1)).1) with
        | some i => (5, (i : Int))
        | none => (0, 0)) := by
  rw [checkAcc, if_neg h, checkAcc_n2 hv]
  dsimp only
  rw [checkAcc_n3 hn]
  dsimp only
  rw [checkAcc_n4 ho]
end Go.Am

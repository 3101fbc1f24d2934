/- What CheckAccount computes. No condition. -/
import Derived.Test.YtbigpkfdeaigeaaGreatDoorSpec
import Derived.Test.YtbigpkfdeaigeaaGreatDoorAm27
namespace Go.Am
open Go
set_option linter.unusedSimpArgs false
set_option linter.unusedVariables false

/-- The first number below n with a property. -/
def firstI (n : Nat) (p : Nat → Bool) : Option Nat := (List.range n).find? p
theorem firstI_hit {n i : Nat} {p : Nat → Bool} (h : i < n) (hp : p i = true) (hb : ∀ j, j < i → p j = false) : firstI n p = some i := by
  unfold firstI
  rw [List.find?_eq_some_iff_getElem]
  refine ⟨hp, i, by simpa using h, by simp, fun j hj => by simp [hb j hj]⟩
theorem firstI_none {n : Nat} {p : Nat → Bool} (hb : ∀ j, j < n → p j = false) : firstI n p = none := by
  unfold firstI
  rw [List.find?_eq_none]
  intro x hx
  simp [hb x (List.mem_range.1 hx)]
theorem firstI_no {n : Nat} {p : Nat → Bool} (h : firstI n p = none) : ∀ j, j < n → p j = false := by
  unfold firstI at h
  rw [List.find?_eq_none] at h
  intro j hj
  have := h j (List.mem_range.2 hj)
  simpa using this

def dAt (ds : List Deed) (i : Nat) : Deed := ds.getD i Deed.zero
theorem dAt_lt {ds : List Deed} {i : Nat} (h : i < ds.length) : dAt ds i = ds[i] := by simp [dAt, List.getD, h]
def linkOk (ds : List Deed) (i : Nat) (l : Lnk) : Bool :=
  nameOk l.name && (if l.ask then !l.has && decide (0 ≤ l.at_) && decide (l.at_ < i) && decide ((dAt ds l.at_.toNat).name = l.name) else decide (l.at_ = 0))
def plainD (d : Deed) : Bool := decide (d.code = 0) && decide (d.action.length = 0) && decide (d.links.length = 0)
def deedOk (ds : List Deed) (i : Nat) (d : Deed) : Bool :=
  nameOk d.name && decide (d.text.length ≤ 2000) &&
    (if d.kind = 1 then plainD d else if d.kind = 2 then plainD d && decide (d.text = []) else if d.kind = 3 then decide (0 ≤ d.code) && decide (d.code ≤ 5) && validP d.action && decide (d.links.length ≤ 200) && d.links.all (linkOk ds i) else false)

/-- The deeds, listed from one on: who was met, and how deep; the order. -/
def dfs (ds : List Deed) : Nat → Nat → Int → (List (Int × Int) × List Int) → (List (Int × Int) × List Int)
  | 0, _, _, st => st
  | f + 1, i, d, st =>
    if (i : Int) ∈ st.1.map (·.1) then st else
      let st2 := (dAt ds i).links.foldl (fun s l => if l.ask then dfs ds f l.at_.toNat (d + 1) s else s) (st.1 ++ [((i : Int), d)], st.2)
      (st2.1, st2.2 ++ [(i : Int)])
def dup (ds : List Deed) (i : Nat) : Bool := decide ((dAt ds i).name ∈ (ds.take i).map (·.name))
def tooDeep (ds : List Deed) (vis : List (Int × Int)) (i : Nat) : Bool := decide ((dAt ds i).kind = 3) && decide (∃ p ∈ vis, p.1 = (i : Int) ∧ 60 ≤ p.2)
def listing (ds : List Deed) (root : Nat) : List (Int × Int) × List Int := dfs ds ds.length root 0 ([], [])
def checkAcc (ds : List Deed) : Int × Int :=
  if ds.length = 0 ∨ 400 < ds.length then (1, 0) else
  match firstI ds.length fun i => !deedOk ds i (dAt ds i) with
  | some i => (2, i)
  | none => match firstI ds.length (dup ds) with
    | some i => (3, i)
    | none => match firstI (listing ds (ds.length - 1)).2.length fun i => !decide ((listing ds (ds.length - 1)).2.getD i 0 = i) with
      | some i => (4, i)
      | none => match firstI ds.length (tooDeep ds (listing ds (ds.length - 1)).1) with
        | some i => (5, i)
        | none => (0, 0)
def accOk (ds : List Deed) : Bool := decide ((checkAcc ds).1 = 0)

theorem nodup_sub_len {α : Type} [DecidableEq α] : ∀ (u L : List α), u.Nodup → (∀ k ∈ u, k ∈ L) → u.length ≤ L.length
  | [], _, _, _ => Nat.zero_le _
  | a :: u, L, hn, hs => by
    have hn' := List.nodup_cons.1 hn
    have ha := hs a (by simp)
    have ih := nodup_sub_len u (L.erase a) hn'.2 fun k hk => (List.mem_erase_of_ne (by rintro rfl; exact hn'.1 hk)).2 (hs k (by simp [hk]))
    rw [List.length_erase_of_mem ha] at ih
    have := List.length_pos_of_mem ha
    simp only [List.length_cons]
    omega
/-! ### The listing -/
/-- What holds of a listing: each is met once; all that are in the order were met. -/
structure LOk (n : Nat) (st : List (Int × Int) × List Int) : Prop where
  nd : (st.1.map (·.1)).Nodup
  lt : ∀ p ∈ st.1, 0 ≤ p.1 ∧ p.1 < n
  sub : ∀ k ∈ st.2, k ∈ st.1.map (·.1)
  len : st.2.length ≤ st.1.length
  nd2 : st.2.Nodup
theorem foldl_pres {α β : Type} {f : β → α → β} {Q : β → Prop} (l : List α) (h : ∀ b, ∀ a ∈ l, Q b → Q (f b a)) : ∀ b, Q b → Q (l.foldl f b) := by
  induction l with
  | nil => intro b hb; exact hb
  | cons a l ih =>
    intro b hb
    exact ih (fun b a' ha => h b a' (by simp [ha])) _ (h b a (by simp) hb)
/-- The links of a deed go to earlier ones. -/
def back (ds : List Deed) : Prop := ∀ i, i < ds.length → ∀ l ∈ (dAt ds i).links, l.ask = true → 0 ≤ l.at_ ∧ l.at_ < i
/-- What a visit does: the list of those met grows behind; the order grows behind, by new ones. -/
theorem dfs_grow (ds : List Deed) : ∀ (f i : Nat) (d : Int) (st : List (Int × Int) × List Int), (∃ t, (dfs ds f i d st).1 = st.1 ++ t) ∧ ∃ t, (dfs ds f i d st).2 = st.2 ++ t
  | 0, i, d, st => ⟨⟨[], by simp [dfs]⟩, ⟨[], by simp [dfs]⟩⟩
  | f + 1, i, d, st => by
    rw [dfs]
    split
    · exact ⟨⟨[], by simp⟩, ⟨[], by simp⟩⟩
    · have := foldl_pres (Q := fun s : List (Int × Int) × List Int => (∃ t, s.1 = (st.1 ++ [((i : Int), d)]) ++ t) ∧ ∃ t, s.2 = st.2 ++ t) (f := fun s l => if l.ask then dfs ds f l.at_.toNat (d + 1) s else s) (dAt ds i).links (by
        rintro s l hl ⟨⟨t1, h1⟩, ⟨t2, h2⟩⟩
        try dsimp only
        split
        · obtain ⟨⟨u1, g1⟩, ⟨u2, g2⟩⟩ := dfs_grow ds f l.at_.toNat (d + 1) s
          exact ⟨⟨t1 ++ u1, by rw [g1, h1, List.append_assoc]⟩, ⟨t2 ++ u2, by rw [g2, h2, List.append_assoc]⟩⟩
        · exact ⟨⟨t1, h1⟩, ⟨t2, h2⟩⟩) (st.1 ++ [((i : Int), d)], st.2) ⟨⟨[], by simp⟩, ⟨[], by simp⟩⟩
      obtain ⟨⟨t1, h1⟩, ⟨t2, h2⟩⟩ := this
      exact ⟨⟨[((i : Int), d)] ++ t1, by dsimp only; rw [h1, List.append_assoc]⟩, ⟨t2 ++ [(i : Int)], by dsimp only; rw [h2, List.append_assoc]⟩⟩
/-- A visit keeps the good form; the order has nothing of what was met before but is not in it. -/
theorem dfs_ok {ds : List Deed} (hb : back ds) : ∀ (f i : Nat) (d : Int) (st : List (Int × Int) × List Int), i < ds.length → i < f → LOk ds.length st →
    LOk ds.length (dfs ds f i d st) ∧ (∀ k ∈ (dfs ds f i d st).2, k ∈ st.2 ∨ k ∉ st.1.map (·.1)) ∧ (i : Int) ∈ (dfs ds f i d st).1.map (·.1)
  | 0, i, d, st, _, h, _ => by omega
  | f + 1, i, d, st, hi, hf, h => by
    rw [dfs]
    split
    · rename_i hm
      exact ⟨h, fun k hk => .inl hk, hm⟩
    · rename_i hm
      have h1 : LOk ds.length (st.1 ++ [((i : Int), d)], st.2) := by
        refine ⟨?_, ?_, ?_, ?_, h.nd2⟩
        · rw [List.map_append, List.nodup_append]
          refine ⟨h.nd, by simp, fun a ha b hb hab => hm ?_⟩
          simp at hb
          rw [← hb, ← hab]
          exact ha
        · intro p hp
          rcases List.mem_append.1 hp with hp | hp
          · exact h.lt p hp
          · simp at hp
            subst hp
            exact ⟨by simp, by simpa using hi⟩
        · intro k hk
          rw [List.map_append]
          exact List.mem_append_left _ (h.sub k hk)
        · have := h.len
          simp only [List.length_append, List.length_singleton]
          try dsimp only
          omega
      have key := foldl_pres (Q := fun s : List (Int × Int) × List Int => LOk ds.length s ∧ (∀ k ∈ s.2, k ∈ st.2 ∨ k ∉ (st.1 ++ [((i : Int), d)]).map (·.1)) ∧ (∃ t, s.1 = (st.1 ++ [((i : Int), d)]) ++ t) ∧ s.2.length + 1 ≤ s.1.length)
        (f := fun s l => if l.ask then dfs ds f l.at_.toNat (d + 1) s else s) (dAt ds i).links (by
        rintro s l hl ⟨q1, q2, ⟨t, q3⟩, q4⟩
        try dsimp only
        split
        · rename_i ha
          obtain ⟨g1, g2⟩ := hb i hi l hl ha
          obtain ⟨r1, r2, r3⟩ := dfs_ok hb f l.at_.toNat (d + 1) s (by omega) (by omega) q1
          obtain ⟨⟨u1, w1⟩, ⟨u2, w2⟩⟩ := dfs_grow ds f l.at_.toNat (d + 1) s
          refine ⟨r1, fun k hk => ?_, ⟨t ++ u1, by rw [w1, q3, List.append_assoc]⟩, ?_⟩
          · rcases r2 k hk with h' | h'
            · exact q2 k h'
            · refine .inr fun hc => h' ?_
              rw [q3, List.map_append]
              exact List.mem_append_left _ hc
          · -- new ones in the order are new among those met
            have hn : (u2.length ≤ u1.length) := by
              have hnd : u2.Nodup := by
                have := r1.nd2
                rw [w2, List.nodup_append] at this
                exact this.2.1
              have hsub : ∀ k ∈ u2, k ∈ u1.map (·.1) := by
                intro k hk
                have hk2 : k ∈ (dfs ds f l.at_.toNat (d + 1) s).2 := by rw [w2]; exact List.mem_append_right _ hk
                have hk1 := r1.sub k hk2
                rw [w1, List.map_append, List.mem_append] at hk1
                rcases hk1 with hk1 | hk1
                · rcases r2 k hk2 with h' | h'
                  · exfalso
                    have := r1.nd2
                    rw [w2, List.nodup_append] at this
                    exact this.2.2 k h' k hk rfl
                  · exact absurd hk1 h'
                · exact hk1
              have hle : u2.length ≤ (u1.map (·.1)).length := nodup_sub_len _ _ hnd hsub
              simpa using hle
            rw [w1, w2]
            simp only [List.length_append]
            omega
        · exact ⟨q1, q2, ⟨t, q3⟩, q4⟩) (st.1 ++ [((i : Int), d)], st.2) ⟨h1, fun k hk => .inl hk, ⟨[], by simp⟩, by have := h.len; simp; omega⟩
      obtain ⟨q1, q2, ⟨t, q3⟩, q4⟩ := key
      generalize (List.foldl (fun s l => if l.ask then dfs ds f l.at_.toNat (d + 1) s else s) (st.1 ++ [((i : Int), d)], st.2) (dAt ds i).links) = s at q1 q2 q3 q4
      have hin : (i : Int) ∈ s.1.map (·.1) := by rw [q3]; simp
      refine ⟨⟨q1.nd, q1.lt, ?_, ?_, ?_⟩, ?_, hin⟩
      · intro k hk
        rcases List.mem_append.1 hk with hk | hk
        · exact q1.sub k hk
        · simp at hk
          subst hk
          exact hin
      · simp only [List.length_append, List.length_singleton]
        exact q4
      · rw [List.nodup_append]
        refine ⟨q1.nd2, by simp, fun a ha b hb' hab => ?_⟩
        simp at hb'
        subst hb'
        subst hab
        rcases q2 _ ha with h' | h'
        · exact hm (h.sub _ h')
        · exact h' (by simp)
      · intro k hk
        rcases List.mem_append.1 hk with hk | hk
        · rcases q2 k hk with h' | h'
          · exact .inl h'
          · refine .inr fun hc => h' ?_
            rw [List.map_append]
            exact List.mem_append_left _ hc
        · simp at hk
          subst hk
          exact .inr hm
/-- What the links of right deeds look like. -/
theorem deedOk_back {ds : List Deed} (h : ∀ i, i < ds.length → deedOk ds i (dAt ds i) = true) : back ds := by
  intro i hi l hl ha
  have := h i hi
  simp only [deedOk, Bool.and_eq_true] at this
  obtain ⟨_, h3⟩ := this
  split at h3
  · simp only [plainD, Bool.and_eq_true, decide_eq_true_eq] at h3
    rw [List.eq_nil_of_length_eq_zero h3.2] at hl
    cases hl
  · split at h3
    · simp only [plainD, Bool.and_eq_true, decide_eq_true_eq] at h3
      rw [List.eq_nil_of_length_eq_zero h3.1.2] at hl
      cases hl
    · split at h3
      · simp only [Bool.and_eq_true] at h3
        have h4 := List.all_eq_true.1 h3.2 l hl
        simp only [linkOk, Bool.and_eq_true, ha, if_true, decide_eq_true_eq] at h4
        exact ⟨h4.2.1.1.2, h4.2.1.2⟩
      · cases h3
theorem LOk.bound {n : Nat} {st : List (Int × Int) × List Int} (ho : LOk n st) : st.1.length ≤ n ∧ st.2.length ≤ n := by
  have h1 := ho.len
  have h2 : ((st.1.map (·.1)).map Int.toNat).length ≤ (List.range n).length := nodup_sub_len _ _ (by
    refine List.Pairwise.map _ (fun a b hab => ?_) (List.Pairwise.and_mem.1 ho.nd)
    obtain ⟨ha, hb', hne⟩ := hab
    obtain ⟨p, hp, rfl⟩ := List.mem_map.1 ha
    obtain ⟨q, hq, rfl⟩ := List.mem_map.1 hb'
    have := ho.lt p hp
    have := ho.lt q hq
    omega) (fun k hk => by
    obtain ⟨a, ha, rfl⟩ := List.mem_map.1 hk
    obtain ⟨p, hp, rfl⟩ := List.mem_map.1 ha
    have := ho.lt p hp
    exact List.mem_range.2 (by omega))
  simp at h2
  omega
theorem LOk.start (n : Nat) : LOk n ([], []) := ⟨by simp, by simp, by simp, by simp, by simp⟩
/-- The last in the order is the root. -/
theorem dfs_last (ds : List Deed) (f i : Nat) (d : Int) (st : List (Int × Int) × List Int) (h : (i : Int) ∉ st.1.map (·.1)) : ∃ t, (dfs ds (f + 1) i d st).2 = t ++ [(i : Int)] := by
  rw [dfs, if_neg h]
  exact ⟨_, rfl⟩
theorem listing_ok {ds : List Deed} (hb : back ds) {root : Nat} (hr : root < ds.length) : LOk ds.length (listing ds root) ∧ ∃ t, (listing ds root).2 = t ++ [(root : Int)] := by
  refine ⟨(dfs_ok hb ds.length root 0 ([], []) hr hr (LOk.start _)).1, ?_⟩
  obtain ⟨f, hf⟩ : ∃ f, ds.length = f + 1 := ⟨ds.length - 1, by omega⟩
  unfold listing
  rw [hf]
  exact dfs_last ds f root 0 ([], []) (by simp)
/-- Is a listing that of the places in order, it is of all of them. -/
theorem listing_all {ds : List Deed} (hb : back ds) (h0 : 0 < ds.length) (h : ∀ i, i < (listing ds (ds.length - 1)).2.length → (listing ds (ds.length - 1)).2.getD i 0 = i) : (listing ds (ds.length - 1)).2.length = ds.length := by
  obtain ⟨ho, t, ht⟩ := listing_ok hb (show ds.length - 1 < ds.length by omega)
  have := h t.length (by rw [ht]; simp)
  rw [ht] at this
  simp at this
  rw [ht]
  simp
  omega
theorem checkAcc_1 {ds : List Deed} (h : ds.length = 0 ∨ 400 < ds.length) : checkAcc ds = (1, 0) := by rw [checkAcc, if_pos h]
theorem checkAcc_2 {ds : List Deed} (h : ¬ (ds.length = 0 ∨ 400 < ds.length)) {i : Nat} (hi : i < ds.length) (hb : deedOk ds i ds[i] = false) (hv : ∀ j (hj : j < ds.length), j < i → deedOk ds j ds[j] = true) : checkAcc ds = (2, (i : Int)) := by
  rw [checkAcc, if_neg h, firstI_hit hi (by simp [dAt_lt hi, hb]) (fun j hj => by simp [dAt_lt (show j < ds.length by omega), hv j (by omega) hj])]
theorem checkAcc_n2 {ds : List Deed} (hv : ∀ j (hj : j < ds.length), deedOk ds j ds[j] = true) : (firstI ds.length fun i => !deedOk ds i (dAt ds i)) = none :=
  firstI_none fun j hj => by simp [dAt_lt hj, hv j hj]
theorem dup_eq {ds : List Deed} {i : Nat} (hi : i < ds.length) : dup ds i = decide (ds[i].name ∈ (ds.take i).map (·.name)) := by simp [dup, dAt_lt hi]
theorem checkAcc_3 {ds : List Deed} (h : ¬ (ds.length = 0 ∨ 400 < ds.length)) (hv : ∀ j (hj : j < ds.length), deedOk ds j ds[j] = true) {i : Nat} (hi : i < ds.length) (hb : ds[i].name ∈ (ds.take i).map (·.name)) (hn : ∀ j (hj : j < ds.length), j < i → ds[j].name ∉ (ds.take j).map (·.name)) : checkAcc ds = (3, (i : Int)) := by
  rw [checkAcc, if_neg h, checkAcc_n2 hv]
  dsimp only
  rw [firstI_hit hi (by rw [dup_eq hi]; exact decide_eq_true hb) (fun j hj => by rw [dup_eq (show j < ds.length by omega)]; simp only [decide_eq_false_iff_not]; exact hn j (by omega) hj)]
theorem checkAcc_n3 {ds : List Deed} (hn : ∀ j (hj : j < ds.length), ds[j].name ∉ (ds.take j).map (·.name)) : firstI ds.length (dup ds) = none :=
  firstI_none fun j hj => by rw [dup_eq hj]; simp only [decide_eq_false_iff_not]; exact hn j hj
theorem checkAcc_4 {ds : List Deed} (h : ¬ (ds.length = 0 ∨ 400 < ds.length)) (hv : ∀ j (hj : j < ds.length), deedOk ds j ds[j] = true) (hn : ∀ j (hj : j < ds.length), ds[j].name ∉ (ds.take j).map (·.name)) {i : Nat}
    (hi : i < (listing ds (ds.length - 1)).2.length) (hb : (listing ds (ds.length - 1)).2[i] ≠ i) (ho : ∀ j (hj : j < (listing ds (ds.length - 1)).2.length), j < i → (listing ds (ds.length - 1)).2[j] = j) : checkAcc ds = (4, (i : Int)) := by
  rw [checkAcc, if_neg h, checkAcc_n2 hv]
  dsimp only
  rw [checkAcc_n3 hn]
  dsimp only
  rw [firstI_hit hi (by simp [List.getD, hi]; exact hb) (fun j hj => by simp [List.getD, show j < (listing ds (ds.length - 1)).2.length by omega]; exact ho j (by omega) hj)]
theorem checkAcc_n4 {ds : List Deed} (ho : ∀ j (hj : j < (listing ds (ds.length - 1)).2.length), (listing ds (ds.length - 1)).2[j] = j) : (firstI (listing ds (ds.length - 1)).2.length fun i => !decide ((listing ds (ds.length - 1)).2.getD i 0 = i)) = none :=
  firstI_none fun j hj => by simp [List.getD, hj]; exact ho j hj
theorem checkAcc_5 {ds : List Deed} (h : ¬ (ds.length = 0 ∨ 400 < ds.length)) (hv : ∀ j (hj : j < ds.length), deedOk ds j ds[j] = true) (hn : ∀ j (hj : j < ds.length), ds[j].name ∉ (ds.take j).map (·.name))
    (ho : ∀ j (hj : j < (listing ds (ds.length - 1)).2.length), (listing ds (ds.length - 1)).2[j] = j) : checkAcc ds = (match firstI ds.length (tooDeep ds (listing ds (ds.length - 1)).1) with
        | some i => (5, (i : Int))
        | none => (0, 0)) := by
  rw [checkAcc, if_neg h, checkAcc_n2 hv]
  dsimp only
  rw [checkAcc_n3 hn]
  dsimp only
  rw [checkAcc_n4 ho]
end Go.Am

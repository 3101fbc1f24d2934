import Derived.Test.YtehhjbomdohgoaaAcc
import Derived.Test.YtehhjbomdohgoaaAccN
import Derived.Test.YtehhjbomdohgoaaDrp
import Derived.Test.YtehhjbomdohgoaaAm28
/- What Cut computes. No condition. -/
namespace Go.Am
open Go
set_option linter.unusedSimpArgs false
set_option linter.unusedVariables false

/-- All asked links of what is listed go to what is listed before. -/
def closed (ds : List Deed) (ord : List Int) : Prop := ∀ k (hk : k < ord.length), ∀ l ∈ (dAt ds ord[k].toNat).links, l.ask = true → l.at_ ∈ ord.take k
theorem closed_push {ds : List Deed} {ord : List Int} {i : Nat} (h : closed ds ord) (hi : ∀ l ∈ (dAt ds i).links, l.ask = true → l.at_ ∈ ord) : closed ds (ord ++ [(i : Int)]) := by
  intro k hk l hl ha
  simp only [List.length_append, List.length_singleton] at hk
  rcases Nat.lt_or_ge k ord.length with h' | h'
  · rw [List.getElem_append_left h'] at hl
    rw [List.take_append_of_le_length (by omega)]
    exact h k h' l hl ha
  · obtain rfl : k = ord.length := by omega
    simp only [List.getElem_append_right (Nat.le_refl _), Nat.sub_self, List.getElem_singleton, Int.toNat_natCast] at hl
    rw [List.take_append_of_le_length (by omega), List.take_length]
    exact hi l hl ha
theorem dfs_closed {ds : List Deed} (hb : back ds) : ∀ (f i : Nat) (d : Int) (st : List (Int × Int) × List Int), i < ds.length → i < f → (∀ v ∈ st.1.map (·.1), v ∈ st.2 ∨ (i : Int) < v) → closed ds st.2 →
    (∀ v ∈ (dfs ds f i d st).1.map (·.1), v ∈ (dfs ds f i d st).2 ∨ (v ∈ st.1.map (·.1) ∧ v ∉ st.2)) ∧ closed ds (dfs ds f i d st).2 ∧ (i : Int) ∈ (dfs ds f i d st).2
  | 0, i, d, st, _, h, _, _ => by omega
  | f + 1, i, d, st, hi, hf, hp, hc => by
    rw [dfs]
    split
    · rename_i hm
      refine ⟨fun v hv => ?_, hc, ?_⟩
      · by_cases h : v ∈ st.2
        · exact .inl h
        · exact .inr ⟨hv, h⟩
      · rcases hp _ hm with h | h
        · exact h
        · omega
    · rename_i hm
      have key : ∀ (ls : List Lnk), (∀ l ∈ ls, l ∈ (dAt ds i).links) → ∀ s : List (Int × Int) × List Int, (∀ v ∈ s.1.map (·.1), v ∈ s.2 ∨ v = i ∨ (v ∈ st.1.map (·.1) ∧ v ∉ st.2)) → closed ds s.2 → (∀ v ∈ st.2, v ∈ s.2) →
          (∀ v ∈ (ls.foldl (fun s l => if l.ask then dfs ds f l.at_.toNat (d + 1) s else s) s).1.map (·.1), v ∈ (ls.foldl (fun s l => if l.ask then dfs ds f l.at_.toNat (d + 1) s else s) s).2 ∨ v = i ∨ (v ∈ st.1.map (·.1) ∧ v ∉ st.2)) ∧
          closed ds (ls.foldl (fun s l => if l.ask then dfs ds f l.at_.toNat (d + 1) s else s) s).2 ∧ (∀ v ∈ s.2, v ∈ (ls.foldl (fun s l => if l.ask then dfs ds f l.at_.toNat (d + 1) s else s) s).2) ∧
          (∀ l ∈ ls, l.ask = true → l.at_ ∈ (ls.foldl (fun s l => if l.ask then dfs ds f l.at_.toNat (d + 1) s else s) s).2) := by
        intro ls
        induction ls with
        | nil => intro _ s h1 h2 h3; exact ⟨h1, h2, fun v hv => hv, by simp⟩
        | cons l ls ih =>
          intro hl s h1 h2 h3
          rw [List.foldl_cons]
          have hl' : ∀ l' ∈ ls, l' ∈ (dAt ds i).links := fun l' h => hl l' (by simp [h])
          cases ha : l.ask
          · obtain ⟨q1, q2, q3, q4⟩ := ih hl' s h1 h2 h3
            refine ⟨q1, q2, q3, fun l' h' ha' => ?_⟩
            rcases List.mem_cons.1 h' with rfl | h'
            · rw [ha] at ha'; cases ha'
            · exact q4 l' h' ha'
          · obtain ⟨g1, g2⟩ := hb i hi l (hl l (by simp)) ha
            obtain ⟨r1, r2, r3⟩ := dfs_closed hb f l.at_.toNat (d + 1) s (by omega) (by omega) (fun v hv => by
              rcases h1 v hv with h | rfl | ⟨h, h'⟩
              · exact .inl h
              · exact .inr (by omega)
              · rcases hp v h with h'' | h''
                · exact absurd h'' h'
                · exact .inr (by omega)) h2
            have hgr : ∀ v ∈ s.2, v ∈ (dfs ds f l.at_.toNat (d + 1) s).2 := fun v hv => by
              obtain ⟨_, t, ht⟩ := dfs_grow ds f l.at_.toNat (d + 1) s
              rw [ht]
              exact List.mem_append_left _ hv
            obtain ⟨q1, q2, q3, q4⟩ := ih hl' (dfs ds f l.at_.toNat (d + 1) s) (fun v hv => by
              rcases r1 v hv with h | ⟨h, h'⟩
              · exact .inl h
              · rcases h1 v h with h'' | h''
                · exact absurd h'' h'
                · exact .inr h'') r2 (fun v hv => hgr v (h3 v hv))
            have hto : ((l.at_.toNat : Nat) : Int) = l.at_ := by omega
            rw [hto] at r3
            simp only [if_true]
            refine ⟨q1, q2, fun v hv => q3 v (hgr v hv), fun l' h' ha' => ?_⟩
            rcases List.mem_cons.1 h' with rfl | h'
            · exact q3 _ r3
            · exact q4 l' h' ha'
      obtain ⟨q1, q2, q3, q4⟩ := key (dAt ds i).links (fun _ h => h) (st.1 ++ [((i : Int), d)], st.2) (fun v hv => by
        dsimp only at hv ⊢
        rw [List.map_append, List.mem_append] at hv
        rcases hv with hv | hv
        · by_cases h : v ∈ st.2
          · exact .inl h
          · exact .inr (.inr ⟨hv, h⟩)
        · simp at hv
          exact .inr (.inl hv)) hc (fun v hv => hv)
      refine ⟨fun v hv => ?_, closed_push q2 q4, by simp⟩
      rcases q1 v hv with h | rfl | h
      · exact .inl (by simp [h])
      · exact .inl (by simp)
      · exact .inr h
theorem listing_closed {ds : List Deed} (hb : back ds) {root : Nat} (hr : root < ds.length) : closed ds (listing ds root).2 :=
  (dfs_closed hb ds.length root 0 ([], []) hr hr (by simp) (by intro k hk; simp at hk)).2.1

/-- The first of a name. -/
def idxD (ds : List Deed) (n : List UInt8) : Option Nat := firstI ds.length fun i => decide ((dAt ds i).name = n)
def cutK (ord : List Int) (l : Lnk) : Lnk := if l.ask then { l with at_ := (ord.idxOf l.at_ : Nat) } else l
def cutD (ord : List Int) (d : Deed) : Deed := { d with links := d.links.map (cutK ord) }
def cutL (ds : List Deed) (ord : List Int) : List Deed := ord.map fun p => cutD ord (dAt ds p.toNat)
def cutAcc (ds : List Deed) (n : List UInt8) : List Deed :=
  if accOk ds then
    match idxD ds n with
    | some r => if accOk (cutL ds (listing ds r).2) then cutL ds (listing ds r).2 else []
    | none => []
  else []
/-- What a good account is. -/
structure Good (ds : List Deed) : Prop where
  len : 0 < ds.length ∧ ds.length ≤ 400
  ok : ∀ j (hj : j < ds.length), deedOk ds j ds[j] = true
  nd : ∀ j (hj : j < ds.length), ds[j].name ∉ (ds.take j).map (·.name)
theorem accOk_good {ds : List Deed} (h : accOk ds = true) : Good ds := by
  unfold accOk at h
  rw [decide_eq_true_eq] at h
  unfold checkAcc at h
  split at h
  · cases h
  rename_i h1
  split at h
  · cases h
  rename_i h2
  split at h
  · cases h
  rename_i h3
  refine ⟨by omega, fun j hj => ?_, fun j hj => ?_⟩
  · have := firstI_no h2 j hj
    rw [dAt_lt hj] at this
    simpa using this
  · have := firstI_no h3 j hj
    rw [dup_eq hj] at this
    simpa using this
theorem Good.back {ds : List Deed} (h : Good ds) : Go.Am.back ds := deedOk_back fun i hi => by rw [dAt_lt hi]; exact h.ok i hi
theorem Good.names {ds : List Deed} (h : Good ds) {i j : Nat} (hi : i < ds.length) (hj : j < ds.length) (hne : i ≠ j) : (dAt ds i).name ≠ (dAt ds j).name := by
  have key : ∀ i j (hi : i < ds.length) (hj : j < ds.length), i < j → ds[i].name ≠ ds[j].name := fun i j hi hj hlt he =>
    h.nd j hj (List.mem_map.2 ⟨ds[i], List.mem_take_iff_getElem.2 ⟨i, by omega, rfl⟩, he⟩)
  rw [dAt_lt hi, dAt_lt hj]
  rcases Nat.lt_or_gt_of_ne hne with h' | h'
  · exact key i j hi hj h'
  · exact fun he => key j i hj hi h' he.symm
theorem Good.link {ds : List Deed} (h : Good ds) {i : Nat} (hi : i < ds.length) {l : Lnk} (hl : l ∈ (dAt ds i).links) (ha : l.ask = true) : 0 ≤ l.at_ ∧ l.at_ < i ∧ (dAt ds l.at_.toNat).name = l.name := by
  obtain ⟨h1, h2⟩ := h.back i hi l hl ha
  refine ⟨h1, h2, ?_⟩
  have := h.ok i hi
  rw [dAt_lt hi] at hl
  simp only [deedOk, Bool.and_eq_true] at this
  obtain ⟨-, h3⟩ := this
  split at h3
  · simp only [plainD, Bool.and_eq_true, decide_eq_true_eq] at h3
    rw [List.length_eq_zero_iff.1 h3.2] at hl
    cases hl
  · split at h3
    · simp only [plainD, Bool.and_eq_true, decide_eq_true_eq] at h3
      rw [List.length_eq_zero_iff.1 h3.1.2] at hl
      cases hl
    · split at h3
      · simp only [Bool.and_eq_true, List.all_eq_true] at h3
        have := h3.2 l hl
        simp only [linkOk, ha, if_true, Bool.and_eq_true, decide_eq_true_eq] at this
        exact this.2.2
      · cases h3
/-- The place of a name, or -1. -/
def idxI (ds : List Deed) (n : List UInt8) : Int := match idxD ds n with
  | some i => i
  | none => -1
theorem idxI_hit {ds : List Deed} {n : List UInt8} {i : Nat} (hi : i < ds.length) (h : ds[i].name = n) (hb : ∀ j (hj : j < ds.length), j < i → ds[j].name ≠ n) : idxI ds n = i := by
  unfold idxI idxD
  rw [firstI_hit hi (by rw [dAt_lt hi]; simp [h]) (fun j hj => by rw [dAt_lt (show j < ds.length by omega)]; simp [hb j (by omega) hj])]
theorem idxI_none {ds : List Deed} {n : List UInt8} (hb : ∀ j (hj : j < ds.length), ds[j].name ≠ n) : idxI ds n = -1 := by
  unfold idxI idxD
  rw [firstI_none (fun j hj => by rw [dAt_lt hj]; simp [hb j hj])]
theorem cutL_len (ds : List Deed) (ord : List Int) : (cutL ds ord).length = ord.length := by simp [cutL]
theorem cutL_get {ds : List Deed} {ord : List Int} {i : Nat} (h : i < (cutL ds ord).length) : (cutL ds ord)[i] = cutD ord (dAt ds (ord[i]'(by rw [cutL_len] at h; exact h)).toNat) := by simp [cutL]
/-- Where an asked link's deed lies in what is cut so far. -/
theorem cut_at {ds : List Deed} (hg : Good ds) {st : List (Int × Int) × List Int} (ho : LOk ds.length st) (hc : closed ds st.2) {i : Nat} (hi : i < st.2.length) {l : Lnk} (hl : l ∈ (dAt ds st.2[i].toNat).links) (ha : l.ask = true) :
    st.2.idxOf l.at_ < i ∧ idxI ((cutL ds st.2).take i) l.name = (st.2.idxOf l.at_ : Nat) := by
  have hmem : l.at_ ∈ st.2.take i := hc i hi l hl ha
  have hlt : st.2.idxOf l.at_ < i := by
    have h1 : st.2.idxOf l.at_ = (st.2.take i).idxOf l.at_ := by
      conv => lhs; rw [← List.take_append_drop i st.2, List.idxOf_append, if_pos hmem]
    have h2 := List.idxOf_lt_length_of_mem hmem
    simp only [List.length_take] at h2
    omega
  have hin : ∀ k (hk : k < st.2.length), 0 ≤ st.2[k] ∧ st.2[k] < ds.length := fun k hk => by
    obtain ⟨p, hp, he⟩ := List.mem_map.1 (ho.sub _ (List.getElem_mem hk))
    have := ho.lt p hp
    rw [← he]
    exact this
  obtain ⟨q, hqe, hql, hq⟩ : ∃ q, st.2.idxOf l.at_ = q ∧ ∃ h : q < st.2.length, st.2[q] = l.at_ := ⟨_, rfl, by omega, List.getElem_idxOf (by omega)⟩
  obtain ⟨g1, g2, g3⟩ := hg.link (by have := hin i hi; omega) hl ha
  rw [hqe] at hlt ⊢
  refine ⟨hlt, idxI_hit (by simp [cutL_len]; omega) ?_ fun j hj hjq => ?_⟩
  · rw [List.getElem_take, cutL_get, hq]
    exact g3
  · rw [List.getElem_take, cutL_get]
    rw [← g3, ← hq]
    simp only [List.length_take] at hj
    have hj2 : j < st.2.length := by omega
    have a1 := hin j hj2
    have a2 := hin q (by omega)
    refine hg.names (by omega) (by omega) fun he => ?_
    have he2 : st.2[j] = st.2[q] := by omega
    have := List.pairwise_iff_getElem.1 ho.nd2 j q hj2 hql hjq
    exact this he2
/-- The place of each that was listed, as the map holds it. -/
def vP (o : List Int) : List (Int × Value) := o.mapIdx fun i a => (a, .int .i64 (i : Int))
theorem vP_s (o : List Int) (a : Int) : vP (o ++ [a]) = vP o ++ [(a, .int .i64 (o.length : Int))] := by simp [vP, List.mapIdx_append]
theorem vP_keys (o : List Int) : (vP o).map (·.1) = o := by
  apply List.ext_getElem
  · simp [vP]
  · intro i h1 h2
    simp [vP]
theorem getP_app {κ : Type} [DecidableEq κ] (a : κ) : ∀ (l l' : List (κ × Value)), getP a (l ++ l') = (getP a l).or (getP a l')
  | [], l' => by simp [getP_nil]
  | p :: l, l' => by
    rw [List.cons_append, getP_cons, getP_cons, getP_app a l l']
    by_cases h : a = p.1 <;> simp [h]
theorem getP_vP' {a : Int} : ∀ {o : List Int} (k : Nat), a ∈ o → getP a (o.mapIdx fun i b => ((b, .int .i64 ((i + k : Nat) : Int)) : Int × Value)) = some (.int .i64 ((o.idxOf a + k : Nat) : Int))
  | b :: o, k, h => by
    rw [List.mapIdx_cons, getP_cons]
    by_cases hab : a = b
    · subst hab
      simp
    · rw [if_neg hab]
      have h' : a ∈ o := (List.mem_cons.1 h).resolve_left hab
      have := getP_vP' (o := o) (k + 1) h'
      have e : (b :: o).idxOf a = o.idxOf a + 1 := by rw [List.idxOf_cons, show (b == a) = false by simpa using fun h => hab h.symm]; rfl
      rw [e, ← show o.idxOf a + (k + 1) = o.idxOf a + 1 + k by omega, ← this]
      congr 2
      funext i c
      congr 3
      omega
theorem getP_vP {a : Int} {o : List Int} (h : a ∈ o) : getP a (vP o) = some (.int .i64 ((o.idxOf a : Nat) : Int)) := getP_vP' 0 h
theorem idxOf_take {a : Int} {o : List Int} {i : Nat} (h : a ∈ o.take i) : (o.take i).idxOf a = o.idxOf a := by
  conv => rhs; rw [← List.take_append_drop i o, List.idxOf_append, if_pos h]
theorem cut_map {ds : List Deed} {o : List Int} (hc : closed ds o) {i : Nat} (hi : i < o.length) {l : Lnk} (hl : l ∈ (dAt ds o[i].toNat).links) (ha : l.ask = true) : getP l.at_ (vP (o.take (i + 1))) = some (.int .i64 ((o.idxOf l.at_ : Nat) : Int)) := by
  have h1 : l.at_ ∈ o.take i := hc i hi l hl ha
  have h2 : l.at_ ∈ o.take (i + 1) := by
    rw [List.take_succ_eq_append_getElem hi]
    exact List.mem_append_left _ h1
  rw [getP_vP h2, idxOf_take h2]
/-- The first ones done. -/
def mapP {α : Type} (f : α → α) (l : List α) (j : Nat) : List α := (l.take j).map f ++ l.drop j
section
variable {α : Type} {f : α → α} {l : List α} {j : Nat}
theorem mapP_z : mapP f l 0 = l := by simp [mapP]
theorem mapP_len : (mapP f l j).length = l.length := by simp [mapP]; omega
theorem mapP_get (h : j < l.length) : (mapP f l j)[j]'(by rw [mapP_len]; exact h) = l[j] := by
  simp only [mapP]
  rw [List.getElem_append_right (by simp; omega)]
  simp [Nat.min_eq_left (Nat.le_of_lt h)]
theorem mapP_s (h : j < l.length) : (mapP f l j).set j (f l[j]) = mapP f l (j + 1) := by
  have e1 : mapP f l j = (l.take j).map f ++ (l[j] :: l.drop (j + 1)) := by rw [mapP, List.drop_eq_getElem_cons h]
  have e2 : mapP f l (j + 1) = (l.take j).map f ++ (f l[j] :: l.drop (j + 1)) := by rw [mapP, List.take_succ_eq_append_getElem h, List.map_append, List.append_assoc]; rfl
  have e3 : ((l.take j).map f).length = j := by simp; omega
  rw [e1, e2, List.set_append_right _ _ (by omega), e3, Nat.sub_self, List.set_cons_zero]
theorem mapP_same (h : j < l.length) (he : f l[j] = l[j]) : mapP f l j = mapP f l (j + 1) := by
  rw [← mapP_s h, he]
  have := @List.set_getElem_self _ (mapP f l j) j (by rw [mapP_len]; exact h)
  rw [mapP_get h] at this
  exact this.symm
theorem mapP_all (h : l.length ≤ j) : mapP f l j = l.map f := by simp [mapP, List.take_of_length_le h, List.drop_eq_nil_of_le h]
end
theorem Good.small {ds : List Deed} (h : Good ds) : ∀ d ∈ ds, d.action.length ≤ 200 ∧ d.links.length ≤ 200 := by
  intro d hd
  obtain ⟨i, hi, rfl⟩ := List.mem_iff_getElem.1 hd
  have := h.ok i hi
  simp only [deedOk, Bool.and_eq_true] at this
  obtain ⟨-, h3⟩ := this
  split at h3
  · simp only [plainD, Bool.and_eq_true, decide_eq_true_eq] at h3
    omega
  · split at h3
    · simp only [plainD, Bool.and_eq_true, decide_eq_true_eq] at h3
      omega
    · split at h3
      · simp only [Bool.and_eq_true, decide_eq_true_eq, validP] at h3
        omega
      · cases h3
theorem sumN_bd {α : Type} {m : α → Nat} {c : Nat} : ∀ {l : List α}, (∀ x ∈ l, m x ≤ c) → sumN m l ≤ c * l.length
  | [], _ => by simp [sumN]
  | x :: l, h => by
    have h1 := h x (by simp)
    have h2 := sumN_bd (m := m) (c := c) (l := l) fun y hy => h y (by simp [hy])
    rw [sumN_cons, List.length_cons, Nat.mul_add]
    omega
theorem Good.m {ds : List Deed} (h : Good ds) : sumN Deed.m ds ≤ 600000 := by
  have h1 : sumN Deed.m ds ≤ 1404 * ds.length := sumN_bd fun d hd => by
    have h2 := h.small d hd
    have h3 : sumN Ins.m d.action ≤ 3 * d.action.length := sumN_bd fun _ _ => Nat.le_refl 3
    have h4 : sumN Lnk.m d.links ≤ 4 * d.links.length := sumN_bd fun _ _ => Nat.le_refl 4
    simp only [Deed.m]
    omega
  have := h.len
  omega
theorem cutAcc_m (ds : List Deed) (n : List UInt8) : sumN Deed.m (cutAcc ds n) ≤ 600000 := by
  unfold cutAcc
  split
  · split
    · split
      · rename_i h
        exact (accOk_good h).m
      · simp [sumN]
    · simp [sumN]
  · simp [sumN]
end Go.Am

/- Parts of both Cuts. No condition. -/
set_option linter.unusedSimpArgs false
set_option linter.unusedVariables false
namespace Go.Proofs.Ytehhjbomdohgoaa
open Go Go.Am Go.Proofs
set_option maxRecDepth 20000
variable {ng : Nat}
theorem cutF_ac {own : Bool} {x : Deed} {c : List Value} {F : List Nat} {H : Heap} (h : DeedR own H x c F) {pb : Nat} {n : List UInt8} (hb : H[pb]? = some ⟨.cells #[str n] 9 (0, 0), true, true⟩) :
    AC Try.prog ng 72 [.agg c.toArray, .pointer (some ⟨pb, 0, none⟩)] H fun v S' => v = .bool (decide (x.name = n)) ∧ S' = H := by
  obtain ⟨hkk, s1, s2, G1, G2, rfl, hFi, hc1, hc2⟩ := h
  obtain ⟨a1, z1, rfl⟩ := hc1.form
  obtain ⟨a2, z2, rfl⟩ := hc2.form
  have hl := (List.getElem?_eq_some_iff.1 hb).1
  have hb2 : ∀ T : Heap, (H ++ T)[pb]? = _ := fun T => (get_ext hl).trans hb
  refine .flat (AC.go [] Try.func72 rfl Try.ntmps72 rfl ⟨mixed, by kernel_rfl⟩ ?_)
  simp +contextual (dsimp := false) [hb2, hb]
theorem indexF_ac {own : Bool} {ds : List Deed} {sd : Value} {F : List Nat} {H : Heap} (hs : DeedsR own H ds [sd] F) {pb : Nat} {n : List UInt8} (hb : H[pb]? = some ⟨.cells #[str n] 9 (0, 0), true, true⟩) :
    AC Try.prog ng 71 [sd, .func (.func 72) #[] #[.pointer (some ⟨pb, 0, none⟩)]] H fun v S' => v = int (idxI ds n) ∧ S' = H := by
  obtain ⟨a, z, rfl⟩ := hs.form
  have hbd := hs.bound
  refine .flat (AC.go [] Try.func71 rfl Try.ntmps71 rfl ⟨mixed, by kernel_rfl⟩ ?_)
  simp +contextual (dsimp := false)
  refine LoopA.upc (σ := Nat) [0, 1, 7, 8] (fun x => [(8, int x)]) (fun i => i ≤ ds.length ∧ ∀ j (hj : j < ds.length), j < i → ds[j].name ≠ n) (fun x => ds.length - x) 0 rfl ⟨by simp, by simp⟩ ?_
  rintro i ⟨hi, hv⟩
  simp +contextual (dsimp := false)
  refine ifA_dec (fun h3 => ?_) (fun h3 => ?_)
  · obtain ⟨id, o, c, e, f, ow, cs, Fi, E⟩ := SlR.get hs i h3
    have hrep := E.rep
    obtain ⟨hkk, s1, s2, G1, G2, rfl, hFi, hc1, hc2⟩ := E.rep
    simp +contextual (dsimp := false) [E.idx, E.goB, E.le, E.lt, E.ext]
    refine CallK.fl ⟨_, Try.func72, rfl, rfl⟩ (cutF_ac hrep hb) ?_
    simp +contextual (dsimp := false) [wrap_succ (show i < 9223372036854775807 by omega)]
    refine ifA_dec (fun h4 => ?_) (fun h4 => ?_)
    · rw [idxI_hit h3 h4 hv]
    · exact LoopN.of (i + 1) rfl ⟨h3, fun j hj hlt => by
        rcases Nat.lt_or_ge j i with h | h
        · exact hv j hj h
        · obtain rfl : j = i := by omega
          exact h4⟩ (by omega)
  · rw [idxI_none fun j hj => hv j hj (by omega)]
theorem l3At_ac {own : Bool} {ds : List Deed} {sd : Value} {F : List Nat} {H : Heap} (hs : DeedsR own H ds [sd] F) (n : List UInt8) :
    AC Try.prog ng 67 [.agg #[sd], str n] H fun v S' => v = int (idxI ds n) ∧ S' = H := by
  obtain ⟨a, z, rfl⟩ := hs.form
  have hbd := hs.bound
  refine .flat (AC.go [] Try.func67 rfl Try.ntmps67 rfl ⟨mixed, by kernel_rfl⟩ ?_)
  simp +contextual (dsimp := false)
  refine LoopA.up (σ := Nat × Heap) [1, 2, 5] (fun i => [(5, int i.1)]) (fun i => i.2) (fun i => i.1 ≤ ds.length ∧ Ext (H ++ [(⟨.cells #[.slice a ds.length z] 43 (0, 0), true, true⟩ : Blk)]) i.2 ∧ ∀ j (hj : j < ds.length), j < i.1 → ds[j].name ≠ n) (fun x => ds.length - x.1) (0, _) rfl ⟨by simp, by first | exact Ext.app _ _ | exact Ext.refl _ | (refine Ext.of ?_; simp), by simp⟩ ?_
  rintro ⟨i, hp⟩ ⟨hi, he, hv⟩
  dsimp only at hi he hv
  have hex : Ext H hp := (Ext.app _ _).trans he
  have hbx : hp[H.length]? = _ := (he _ (by simp)).trans (by simp; rfl)
  simp +contextual (dsimp := false) [hbx]
  refine ifA_dec (fun h3 => ?_) (fun h3 => ?_)
  · obtain ⟨id, o, c, e, f, ow, cs, Fi, E⟩ := SlR.get (Rp.ext hs hex) i h3
    obtain ⟨hkk, s1, s2, G1, G2, rfl, hFi, hc1, hc2⟩ := E.rep
    have hle := E.le
    simp +contextual (dsimp := false) [E.idx, E.goB, E.le, E.lt, E.ext, E.cell0 (by decide), hbx, show o + 1 ≤ c.size by omega, wrap_succ (show i < 9223372036854775807 by omega)]
    refine ifA_dec (fun h4 => ?_) (fun h4 => ?_)
    · rw [idxI_hit h3 h4 hv]
      simp [hex]
    · exact LoopN.of (i + 1, _) rfl ⟨h3, he, fun j hj hlt => by
        rcases Nat.lt_or_ge j i with h | h
        · exact hv j hj h
        · obtain rfl : j = i := by dsimp only at hlt; omega
          exact h4⟩ (by dsimp only; omega)
  · rw [idxI_none fun j hj => hv j hj (by omega)]
    simp [hex]
theorem cloneLnk_ac {l : List Lnk} {s : Value} {F : List Nat} {H : Heap} (hs : LnksR true H l [s] F) (hl : l.length ≤ 1048576) : AC Try.prog ng 74 [s] H fun v S' => ∃ F', Ext H S' ∧ LnksR true S' l [v] F' ∧ Fresh H.length F' := by
  refine AC.go [] Try.func74 rfl Try.ntmps74 rfl ⟨mixed, by kernel_rfl⟩ ?_
  rcases hs.cases with ⟨rfl, rfl, rfl⟩ | ⟨id, off, rfl⟩
  · simp +contextual (dsimp := false) [bin_nlseq und89]
    exact ⟨[], SlR.nil, Fresh.nil _⟩
  · simp +contextual (dsimp := false) [bin_sleq und89]
    refine AppK.many (base := H.length) slt89 und89 (SlR.mt (R := LnkR) (e := 114) (f := (0, 0)) (by simp)) (Fresh.one (n := H.length) (Nat.le_refl _)) (Rp.ext hs (Ext.app _ _)) (by rw [SlR.flatF hs]; exact Fresh.nil _) (by rw [SlR.flatF hs]; simp) (by simp) (by simp; omega) (by decide) ?_
    intro s' H' F' q1 q2 q3 q4 q5
    simp +contextual (dsimp := false)
    refine ⟨fun j hj => ?_, F', q1, q2⟩
    rw [q4 j (by simp; omega) (by simp; omega), get_ext hj]
theorem l3Copy_ac {own : Bool} {ds : List Deed} {sd : Value} {F : List Nat} {H : Heap} (hs : DeedsR own H ds [sd] F) (hw : ds.length ≤ 400 ∧ ∀ d ∈ ds, d.action.length ≤ 1048576 ∧ d.links.length ≤ 1048576) :
    AC Try.prog ng 69 [.agg #[sd]] H fun v S' => ∃ s' F', v = .agg #[s'] ∧ Ext H S' ∧ DeedsR true S' ds [s'] F' ∧ Fresh H.length F' := by
  obtain ⟨a, z, rfl⟩ := hs.form
  have hbd := hs.bound
  refine AC.go [] Try.func69 rfl Try.ntmps69 rfl ⟨mixed, by kernel_rfl⟩ ?_
  simp +contextual (dsimp := false)
  refine LoopA.up (σ := Nat × Heap × Value × List Nat) [1, 2, 3, 4] (fun x => [(4, int x.1)]) (fun x => x.2.1)
    (fun y => y.1 ≤ ds.length ∧ (∀ j, j < H.length → y.2.1[j]? = H[j]?) ∧ H.length + 3 ≤ y.2.1.length ∧
      y.2.1[H.length]? = some ⟨.cells #[.slice a ds.length z] 43 (0, 0), true, true⟩ ∧
      y.2.1[H.length + 1]? = some ⟨.cells #[.slice none 0 0] 43 (0, 0), true, true⟩ ∧
      y.2.1[H.length + 2]? = some ⟨.cells #[y.2.2.1] 43 (0, 0), true, true⟩ ∧
      DeedsR true y.2.1 (ds.take y.1) [y.2.2.1] y.2.2.2 ∧ Fresh (H.length + 3) y.2.2.2)
    (fun y => ds.length - y.1) (0, _, .slice none 0 0, []) rfl ⟨by simp, fun j hj => get_ext hj, by simp, by simp, by simp, by simp, SlR.nil, Fresh.nil _⟩ ?_
  rintro ⟨i, hh, s, F⟩ ⟨hi, e0, hle, eb, er, eo, hv, hf⟩
  dsimp only at hi e0 hle eb er eo hv hf
  obtain ⟨ao, zo, rfl⟩ := hv.form
  have hli : (ds.take i).length = i := by simp; omega
  rw [hli] at hv eo
  simp +contextual (dsimp := false) [eb]
  refine ifA_dec (fun h3 => ?_) (fun h3 => ?_)
  · obtain ⟨id, o, c, e, f, ow, cs, Fi, E⟩ := SlR.get (Rp.fr hs (fun j hj => e0 j (Rp.lt hs j hj))) i h3
    obtain ⟨hkk, s1, s2, G1, G2, rfl, hFi, hc1, hc2⟩ := E.rep
    obtain ⟨a1, z1, rfl⟩ := hc1.form
    obtain ⟨a2, z2, rfl⟩ := hc2.form
    have hwi := hw.2 _ (List.getElem_mem h3)
    simp +contextual (dsimp := false) [eb, E.idx, E.goB, E.le, E.lt, E.ext]
    refine CallK.of ⟨_, Try.func80, rfl, rfl⟩ (l2Program_ac (Rp.ext hc1 (Ext.app _ _)) hwi.1) ?_
    rintro v S1 ⟨u, D1, rfl, he, hv2, hf2⟩
    obtain ⟨b1, y1, rfl⟩ := hv2.form
    obtain ⟨X1, rfl⟩ := he.split
    try simp only [List.append_assoc, List.cons_append, List.nil_append] at hv2 ⊢
    simp only [List.length_append, List.length_singleton] at hf2
    have hlD := Rp.lt hv2
    simp +contextual (dsimp := false)
    refine AppK.many (base := hh.length + 1) slt89 und89 (SlR.mt (R := LnkR) (e := 114) (f := (0, 0)) (j := hh.length + (X1.length + 1)) (by simp)) (Fresh.one (by omega)) (Rp.ext hc2 (Ext.app _ _)) (by rw [SlR.flatF hc2]; exact Fresh.nil _) (by rw [SlR.flatF hc2]; simp) (by simp) (by simp; omega) (by decide) ?_
    intro s3 H3 F3 q1 q2 q3 q4 q5
    obtain ⟨a3, z3, rfl⟩ := q1.form
    simp only [List.nil_append] at q1 ⊢
    simp only [List.length_append, List.length_cons, List.length_nil] at q3
    have k1 : ∀ j, j < hh.length → H3[j]? = hh[j]? := fun j hj => (q4 j (by simp; omega) (by simp; omega)).trans (get_ext hj)
    have ec : H3[hh.length]? = some (⟨.cells #[str ds[i].name, int ds[i].kind, int ds[i].code, str ds[i].text, .slice b1 ds[i].action.length y1, .slice a2 ds[i].links.length z2] 91 (0, 0), true, true⟩ : Blk) := (q4 _ (by simp) (by simp)).trans (by simp)
    have hv3 : CodeR true H3 ds[i].action [.slice b1 ds[i].action.length y1] D1 := Rp.fr hv2 fun j hj => by
      have h1 := hf2.1 j hj
      have h2 := hlD j hj
      simp only [List.length_append, List.length_cons, List.length_nil] at h2
      refine (q4 j (by simp; omega) (by simp; omega)).trans (fr_pre (m := 1) (by omega) (by simp; omega) ?_)
      simp
    have hl3 : hh.length < H3.length := by omega
    have es : ∀ b : Blk, (H3.set hh.length b)[hh.length]? = some b := fun b => List.getElem?_set_self hl3
    have eo3 : ∀ b : Blk, (H3.set hh.length b)[H.length + 2]? = _ := fun b => (List.getElem?_set_ne (by omega)).trans ((k1 _ (by omega)).trans eo)
    simp +contextual (dsimp := false) [ec, es, eo3]
    have hdj : ∀ j ∈ D1, j ∉ F3 := fun j h1 h2 => by
      have g2 := hlD j h1
      simp only [List.length_append, List.length_cons, List.length_nil] at g2
      rcases q5 j h2 with h | h | h
      · simp at h; omega
      · rw [SlR.flatF hc2] at h; cases h
      · simp at h; omega
    refine AppK.one (R := DeedR true) (l := ds.take i) (ex := 91) (fx := (0, 0)) (ox := true) (base := H.length + 3) (x := ds[i]) (cx := [str ds[i].name, int ds[i].kind, int ds[i].code, str ds[i].text, .slice b1 ds[i].action.length y1, .slice a3 ds[i].links.length z3]) (Fx := D1 ++ F3) slt41 und41 ?_ hf ?_ ?_ ((hf2.weak (by omega)).app (q2.weak (by omega)) hdj) ?_ ?_ ?_ (by decide) ?_
    · exact Rp.fr hv fun j hj => by
        have := Rp.lt hv j hj
        exact (get_ext (by simp; omega)).trans ((List.getElem?_set_ne (by omega)).trans (k1 j this))
    · simp
    · refine ⟨hkk, _, _, _, _, rfl, rfl, ?_, ?_⟩
      · exact Rp.fr hv3 fun j hj => by
          have := hf2.1 j hj
          have := Rp.lt hv3 j hj
          exact (get_ext (by simp; omega)).trans (List.getElem?_set_ne (by omega))
      · exact Rp.fr q1 fun j hj => by
          have := q2.1 j hj
          have := Rp.lt q1 j hj
          exact (get_ext (by simp; omega)).trans (List.getElem?_set_ne (by omega))
    · intro j hj hm
      have := Rp.lt hv j hm
      rcases List.mem_append.1 hj with h | h
      · have := hf2.1 j h; omega
      · have := q2.1 j h; omega
    · simp; omega
    · omega
    intro s4 H4 F4 p1 p2 p3 p4 p5
    rw [← List.take_succ_eq_append_getElem h3] at p1
    obtain ⟨a4, z4, rfl⟩ := p1.form
    have hli2 : (ds.take (i + 1)).length = i + 1 := by simp; omega
    rw [hli2] at p1 ⊢
    simp only [List.length_append, List.length_cons, List.length_nil, List.length_set] at p3
    have k : ∀ j, j < hh.length → j ∉ F → H4[j]? = hh[j]? := fun j hj hm => (p4 j (by simp; omega) hm).trans ((get_ext (by simp; omega)).trans ((List.getElem?_set_ne (by omega)).trans (k1 j hj)))
    have k3 : ∀ j, j < H.length + 3 → H4[j]? = hh[j]? := fun j hj => k j (by omega) fun hm => by have := hf.1 j hm; omega
    have eo' := (k3 (H.length + 2) (by omega)).trans eo
    simp +contextual (dsimp := false) [eo', wrap_succ (show i < 9223372036854775807 by omega)]
    refine LoopN.of (i + 1, H4.set (H.length + 2) _, .slice a4 (i + 1) z4, F4) rfl ⟨h3, fun j hj => (List.getElem?_set_ne (by omega)).trans ((k3 j (by omega)).trans (e0 j hj)), by simp; omega, (List.getElem?_set_ne (by omega)).trans ((k3 _ (by omega)).trans eb), (List.getElem?_set_ne (by omega)).trans ((k3 _ (by omega)).trans er), ?_, ?_, p2⟩ (by dsimp only; omega)
    · exact List.getElem?_set_self (by omega)
    · exact Rp.fr p1 fun j hj => List.getElem?_set_ne (by rintro rfl; have := p2.1 _ hj; omega)
  · rw [List.take_of_length_le (by omega)] at hv
    have hin : i = ds.length := by omega
    have es : ∀ b : Blk, (hh.set (H.length + 1) b)[H.length + 1]? = some b := fun b => List.getElem?_set_self (by omega)
    simp +contextual (dsimp := false) [eo, er, es]
    exact ⟨fun j hj => (List.getElem?_set_ne (by omega)).trans (e0 j hj), F, Rp.fr hv fun j hj => List.getElem?_set_ne (by have := hf.1 j hj; omega), hf.weak (by omega)⟩
end Go.Proofs.Ytehhjbomdohgoaa

/- Cut, the program's. No condition. -/
set_option linter.unusedSimpArgs false
set_option linter.unusedVariables false
namespace Go.Proofs.Ytehhjbomdohgoaa
open Go Go.Am Go.Proofs
set_option maxRecDepth 20000
variable {ng : Nat}
theorem cut_bad {ds : List Deed} {n : List UInt8} (h : accOk ds = false) : cutAcc ds n = [] := by rw [cutAcc, if_neg (by simp [h])]
theorem cut_none {ds : List Deed} {n : List UInt8} (h : idxD ds n = none) : cutAcc ds n = [] := by
  rw [cutAcc, h]
  split <;> rfl
theorem cut_some {ds : List Deed} {n : List UInt8} {r : Nat} (h : accOk ds = true) (h' : idxD ds n = some r) : cutAcc ds n = if accOk (cutL ds (listing ds r).2) then cutL ds (listing ds r).2 else [] := by
  rw [cutAcc, if_pos h, h']
theorem idxI_cases (ds : List Deed) (n : List UInt8) : (idxD ds n = none ∧ idxI ds n = -1) ∨ ∃ r : Nat, idxD ds n = some r ∧ idxI ds n = r ∧ r < ds.length := by
  unfold idxI
  cases h : idxD ds n with
  | none => exact .inl ⟨rfl, rfl⟩
  | some r => exact .inr ⟨r, rfl, rfl, (firstI_some h).1⟩
theorem ord_in {n : Nat} {st : List (Int × Int) × List Int} (ho : LOk n st) {k : Nat} (hk : k < st.2.length) : 0 ≤ st.2[k] ∧ st.2[k] < n := by
  obtain ⟨p, hp, he⟩ := List.mem_map.1 (ho.sub _ (List.getElem_mem hk))
  have := ho.lt p hp
  rw [← he]
  exact this
set_option maxHeartbeats 4000000 in
theorem implCut_ac {ds : List Deed} {sd : Value} {FD : List Nat} {H : Heap} (hs : DeedsR true H ds [sd] FD) {n : List UInt8} (hn : okS n) :
    AC Try.prog ng 25 [.agg #[sd], str n] H fun v S' => ∃ s' F', v = .agg #[s'] ∧ Ext H S' ∧ DeedsR true S' (cutAcc ds n) [s'] F' ∧ Fresh H.length F' := by
  obtain ⟨ad, zd, rfl⟩ := hs.form
  refine AC.go [] Try.func25 rfl Try.ntmps25 rfl ⟨mixed, by kernel_rfl⟩ ?_
  simp +contextual (dsimp := false)
  refine CallK.fl ⟨_, Try.func70, rfl, rfl⟩ (accValid_ac (Rp.ext hs (Ext.app _ _))) ?_
  simp +contextual (dsimp := false)
  refine ifA_intro (fun h1 => ?_) (fun h1 => ?_)
  rotate_left
  · rw [cut_bad h1]
    exact ⟨[], SlR.nil, Fresh.nil _⟩
  have hg := accOk_good h1
  have hw := hg.small
  refine CallK.fl ⟨_, Try.func71, rfl, rfl⟩ (indexF_ac (n := n) (Rp.ext hs (Ext.app _ _)) (by simp)) ?_
  rcases idxI_cases ds n with ⟨e1, e2⟩ | ⟨r, e1, e2, hr⟩
  · rw [cut_none e1, e2]
    simp +contextual (dsimp := false)
    exact ⟨[], SlR.nil, Fresh.nil _⟩
  have hcut := cut_some h1 e1
  rw [e2]
  simp +contextual (dsimp := false)
  refine CallK.of ⟨_, Try.func58, rfl, rfl⟩ (listing_ac hg.back (by have := hg.len; omega) (Rp.ext hs (Ext.app _ _)) r hr) ?_
  rintro v S' ⟨so, mm, Fo, rfl, he3, ho, hfo, hmp, hmm⟩
  have hok := (listing_ok hg.back hr).1
  have hcl := listing_closed hg.back hr
  generalize hL : listing ds r = L at *
  obtain ⟨ao, zo, rfl⟩ := ho.form
  have hx3 : Ext H S' := fun j hj => (he3 j (by simp; omega)).trans (get_ext hj)
  have hle3 := he3.le
  simp only [List.length_append, List.length_cons, List.length_nil] at hle3 hmm
  have hbr : S'[H.length + 2]? = some (⟨.cells #[.slice none 0 0] 43 (0, 0), true, true⟩ : Blk) := (he3 _ (by simp)).trans (by simp)
  have hba : S'[H.length]? = some (⟨.cells #[.slice ad ds.length zd] 43 (0, 0), true, true⟩ : Blk) := (he3 _ (by simp)).trans (by simp)
  clear hmp
  simp +contextual (dsimp := false)
  refine LoopA.up (σ := Nat × Heap × Value × List Nat) [2, 4, 8, 9, 34, 35, 36] (fun x => [(36, int x.1)]) (fun x => x.2.1)
    (fun x => x.1 ≤ L.2.length ∧ (∀ j, j < S'.length → x.2.1[j]? = S'[j]?) ∧ S'.length + 2 ≤ x.2.1.length ∧ MapR kI x.2.1 S'.length (vP (L.2.take x.1)) ∧
      x.2.1[S'.length + 1]? = some ⟨.cells #[x.2.2.1] 43 (0, 0), true, true⟩ ∧ DeedsR true x.2.1 ((cutL ds L.2).take x.1) [x.2.2.1] x.2.2.2 ∧ Fresh (S'.length + 2) x.2.2.2)
    (fun x => L.2.length - x.1) (0, _, .slice none 0 0, []) rfl ⟨by simp, fun j hj => get_ext hj, by simp, MapR.new (by simp), by simp, SlR.nil, Fresh.nil _⟩ ?_
  rintro ⟨i, hp, s, F⟩ ⟨hi, hfr, hle, hmp, hbo, hv, hf⟩
  dsimp only at hi hfr hle hmp hbo hv hf
  obtain ⟨a0, z0, rfl⟩ := hv.form
  have hli : ((cutL ds L.2).take i).length = i := by simp [cutL_len]; omega
  rw [hli] at hv hbo
  simp +contextual (dsimp := false)
  refine ifA_dec (fun h9 => ?_) (fun h9 => ?_)
  · obtain ⟨id, o, c, e, f, ow, cs, Fi, E⟩ := SlR.get (Rp.fr ho (H' := hp) fun j hj => hfr j (Rp.lt ho j hj)) i h9
    obtain ⟨rfl, rfl, -⟩ := E.rep
    have hin := ord_in hok h9
    obtain ⟨q, hq⟩ : ∃ q : Nat, L.2[i] = q := ⟨L.2[i].toNat, by omega⟩
    simp +contextual (dsimp := false) [E.idx, E.goB, E.le, E.lt, E.ext, E.cell0 (by decide), hq]
    refine UpdK.map (a := (q : Int)) keyI hmp rfl ?_
    intro es cl hmp1
    rw [putP_new _ _ _ (by
      rw [vP_keys]
      intro hm
      obtain ⟨k, hk, he⟩ := List.mem_take_iff_getElem.1 hm
      exact List.pairwise_iff_getElem.1 hok.nd2 k i (by omega) h9 (by omega) (he.trans hq.symm)), show (vP (L.2.take i) ++ [((q : Int), (.int .i64 (i : Int) : Value))]) = vP (L.2.take (i + 1)) by
        rw [List.take_succ_eq_append_getElem h9, vP_s, hq]
        simp [Nat.min_eq_left hi]] at hmp1
    obtain ⟨H1, hH1⟩ : ∃ H1, H1 = hp.set S'.length ⟨.map es cl, true, true⟩ := ⟨_, rfl⟩
    rw [← hH1] at hmp1 ⊢
    have hlen : H1.length = hp.length := by rw [hH1]; simp
    have hne : ∀ j, j ≠ S'.length → H1[j]? = hp[j]? := fun j hj => by rw [hH1]; exact List.getElem?_set_ne (Ne.symm hj)
    have hb1 : H1[H.length]? = _ := (hne _ (by omega)).trans ((hfr _ (by omega)).trans hba)
    have hds1 : DeedsR true H1 ds [.slice ad ds.length zd] FD := Rp.fr hs fun j hj => by
      have := Rp.lt hs j hj
      exact (hne j (by omega)).trans ((hfr j (by omega)).trans (hx3 j this))
    obtain ⟨id2, o2, c2, e2', f2, ow2, cs2, Fi2, E2⟩ := SlR.get hds1 q (by omega)
    obtain ⟨hkk, s1, s2, G1, G2, rfl, hFi, hc1, hc2⟩ := E2.rep
    obtain ⟨a1, z1, rfl⟩ := hc1.form
    obtain ⟨a2, z2, rfl⟩ := hc2.form
    have hwi := hw ds[q] (List.getElem_mem _)
    simp +contextual (dsimp := false) [hb1, E2.idx, E2.goB, E2.le, E2.lt, E2.ext]
    refine CallK.of ⟨_, Try.func73, rfl, rfl⟩ (twin_ac (Rp.ext hc1 (Ext.app _ _)) (by omega)) ?_
    rintro v S1 ⟨u, D1, rfl, he1, hv1, hf1⟩
    obtain ⟨b1, y1, rfl⟩ := hv1.form
    obtain ⟨X1, rfl⟩ := he1.split
    try simp only [List.append_assoc, List.cons_append, List.nil_append] at hv1 ⊢
    simp only [List.length_append, List.length_singleton] at hf1
    simp +contextual (dsimp := false)
    refine CallK.of ⟨_, Try.func74, rfl, rfl⟩ (cloneLnk_ac (Rp.ext hc2 (Ext.app _ _)) (by omega)) ?_
    rintro v S2 ⟨D2, he2, hv2, hf2⟩
    obtain ⟨b2, y2, rfl⟩ := hv2.form
    obtain ⟨X2, rfl⟩ := he2.split
    try simp only [List.append_assoc, List.cons_append, List.nil_append] at hv2 ⊢
    simp +contextual (dsimp := false)
    obtain ⟨H2, hH2⟩ : ∃ H2, H2 = H1 ++ (⟨.cells #[str ds[q].name, int ds[q].kind, int ds[q].code, str ds[q].text, .slice b1 ds[q].action.length y1, .slice b2 ds[q].links.length y2] 91 (0, 0), true, true⟩ : Blk) :: (X1 ++ X2) := ⟨_, rfl⟩
    rw [← hH2]
    have hx2 : Ext H1 H2 := by rw [hH2]; exact Ext.app _ _
    have hl2 : H2.length = H1.length + 1 + X1.length + X2.length := by rw [hH2]; simp; omega
    have hbd : H2[H1.length]? = some (⟨.cells #[str ds[q].name, int ds[q].kind, int ds[q].code, str ds[q].text, .slice b1 ds[q].action.length y1, .slice b2 ds[q].links.length y2] 91 (0, 0), true, true⟩ : Blk) := by rw [hH2]; simp
    have hD1 : ∀ j ∈ D1, j < H1.length + 1 + X1.length := fun j hj => by
      have := Rp.lt hv1 j hj
      simp only [List.length_append, List.length_cons] at this
      omega
    have hvA : CodeR true H2 ds[q].action [.slice b1 ds[q].action.length y1] D1 := Rp.fr hv1 fun j hj => by
      have h1 := hf1.1 j hj
      have h2 := hD1 j hj
      rw [hH2]
      refine fr_pre (m := 1) (by omega) (by simp; omega) ?_
      simp
    simp only [List.length_append, List.length_cons] at hf2
    have hvL : LnksR true H2 ds[q].links [.slice b2 ds[q].links.length y2] D2 := Rp.fr hv2 fun j hj => by
      have h1 := hf2.1 j hj
      have h2 := Rp.lt hv2 j hj
      rw [hH2]
      refine fr_pre (m := 1) (by omega) h2 ?_
      simp
    have hb2 := hvL.bound
    refine LoopA.up (σ := Nat × Heap) [2, 4, 8, 9, 12, 34, 35, 36, 59, 60] (fun x => [(60, int x.1)]) (fun x => x.2)
      (fun x => x.1 ≤ ds[q].links.length ∧ LnksR true x.2 (mapP (cutK L.2) ds[q].links x.1) [.slice b2 ds[q].links.length y2] D2 ∧ x.2.length = H2.length ∧ ∀ j, j ∉ D2 → x.2[j]? = H2[j]?)
      (fun x => ds[q].links.length - x.1) (0, H2) rfl ⟨by simp, by rw [mapP_z]; exact hvL, rfl, fun _ _ => rfl⟩ ?_
    rintro ⟨k, h3⟩ ⟨hk, hv3, hl3, hf3⟩
    dsimp only at hk hv3 hl3 hf3
    have hbd3 : h3[H1.length]? = _ := (hf3 _ fun hm => by have := hf2.1 _ hm; omega).trans hbd
    have hfr1 : ∀ j, j < H1.length → h3[j]? = H1[j]? := fun j hj => (hf3 j fun hm => by have := hf2.1 _ hm; omega).trans (hx2 j hj)
    have hmp3 : MapR kI h3 S'.length (vP (L.2.take (i + 1))) := hmp1.fr (hfr1 _ (by omega))
    simp +contextual (dsimp := false)
    refine ifA_dec (fun h10 => ?_) (fun h10 => ?_)
    · obtain ⟨id3, o3, c3, e3, f3, ow3, cs3, Fi3, E3⟩ := SlR.get hv3 k (by rw [mapP_len]; exact h10)
      have hrep := E3.rep
      rw [mapP_get h10] at hrep
      obtain ⟨rfl, rfl, hok3⟩ := hrep
      obtain rfl := E3.own' rfl
      have hle3' := E3.le
      have hlk : ds[q].links[k] ∈ (dAt ds L.2[i].toNat).links := by rw [hq, Int.toNat_natCast, dAt_lt (by omega)]; exact List.getElem_mem _
      have hcm := cut_map hcl h9 hlk
      have hsame := mapP_same (f := cutK L.2) h10
      have hset := mapP_s (f := cutK L.2) h10
      have hput := fun v x' => E3.set1 (v := v) (x' := x') (k := 3) hf2.2 rfl (by decide)
      have hck : cutK L.2 ds[q].links[k] = if ds[q].links[k].ask then { ds[q].links[k] with at_ := (L.2.idxOf ds[q].links[k].at_ : Nat) } else ds[q].links[k] := rfl
      generalize ds[q].links[k] = l at *
      cases ha : l.ask
      · rw [ha] at hck
        simp +contextual (dsimp := false) [hbd3, E3.idx, E3.goB, E3.le, E3.lt, E3.cell 1 (by omega), Lnk.c, ha, show o3 + 1 + 1 ≤ c3.size by omega, wrap_succ (show k < 9223372036854775807 by omega)]
        exact LoopN.of (k + 1, h3) rfl ⟨h10, by rw [← hsame hck]; exact hv3, hl3, hf3⟩ (by dsimp only; omega)
      · rw [ha] at hck
        simp +contextual (dsimp := false) [hbd3, E3.idx, E3.goB, E3.le, E3.lt, E3.cell 1 (by omega), E3.cell 3 (by omega), Lnk.c, ha, show o3 + 1 + 1 ≤ c3.size by omega, show o3 + 3 + 1 ≤ c3.size by omega, wrap_succ (show k < 9223372036854775807 by omega)]
        refine LookK.map (a := l.at_) keyI hmp3 ?_
        rw [hcm ha]
        simp +contextual (dsimp := false) [E3.goB, goB_self E3.lt, show o3 + 3 + 1 ≤ c3.size by omega, wrap_succ (show k < 9223372036854775807 by omega)]
        rw [if_pos rfl] at hck
        rw [hck] at hset
        have hbn := hok.bound
        have hix := List.idxOf_le_length (l := L.2) (a := l.at_)
        have hlen4 := hg.len
        refine LoopN.of (k + 1, h3.set id3 _) rfl ⟨h10, ?_, by simp [hl3], fun j hj => (List.getElem?_set_ne (by rintro rfl; exact hj E3.mem)).trans (hf3 j hj)⟩ (by dsimp only; omega)
        dsimp only
        rw [← hset]
        exact hput _ _ ⟨rfl, rfl, hok3.1, by dsimp only; omega, by dsimp only; omega⟩
    · rw [mapP_all (by omega)] at hv3
      have hbo3 : h3[S'.length + 1]? = _ := (hfr1 _ (by omega)).trans ((hne _ (by omega)).trans hbo)
      simp +contextual (dsimp := false) [hbo3, hbd3]
      have hv3o : DeedsR true h3 ((cutL ds L.2).take i) [.slice a0 i z0] F := Rp.fr hv fun j hj => by
        have h1 := hf.1 j hj
        have h2 := Rp.lt hv j hj
        exact (hfr1 j (by omega)).trans (hne j (by omega))
      have hvA3 : CodeR true h3 ds[q].action [.slice b1 ds[q].action.length y1] D1 := Rp.fr hvA fun j hj => hf3 j fun hm => by
        have := hD1 j hj
        have := hf2.1 j hm
        omega
      refine AppK.one (R := DeedR true) (l := (cutL ds L.2).take i) (ex := 91) (fx := (0, 0)) (ox := true) (base := S'.length + 2) (x := cutD L.2 ds[q]) (cx := [str ds[q].name, int ds[q].kind, int ds[q].code, str ds[q].text, .slice b1 ds[q].action.length y1, .slice b2 ds[q].links.length y2]) (Fx := D1 ++ D2) slt41 und41 ?_ hf ?_ ?_ ((hf1.weak (by omega)).app (hf2.weak (by omega)) fun j h1 h2 => by
        have := hD1 j h1
        have := hf2.1 j h2
        omega) ?_ ?_ ?_ (by decide) ?_
      · exact Rp.ext hv3o (Ext.app _ _)
      · simp
      · exact ⟨hkk, _, _, _, _, rfl, rfl, Rp.ext hvA3 (Ext.app _ _), Rp.ext hv3 (Ext.app _ _)⟩
      · intro j hj hm
        have := Rp.lt hv j hm
        rcases List.mem_append.1 hj with h | h
        · have := hf1.1 j h; omega
        · have := hf2.1 j h; omega
      · simp; omega
      · have := hok.bound
        have := hg.len
        omega
      intro s4 H4 F4 p1 p2 p3 p4 p5
      have hci : (cutL ds L.2)[i]'(by rw [cutL_len]; exact h9) = cutD L.2 ds[q] := by rw [cutL_get, hq, Int.toNat_natCast, dAt_lt (by omega)]
      rw [← hci, ← List.take_succ_eq_append_getElem (by rw [cutL_len]; exact h9)] at p1
      obtain ⟨a4, z4, rfl⟩ := p1.form
      have hli2 : ((cutL ds L.2).take (i + 1)).length = i + 1 := by simp [cutL_len]; omega
      rw [hli2] at p1 ⊢
      simp only [List.length_append, List.length_cons, List.length_nil] at p3
      have k3 : ∀ j, j < S'.length + 2 → H4[j]? = h3[j]? := fun j hj => (p4 j (by simp; omega) fun hm => by have := hf.1 j hm; omega).trans (get_ext (by omega))
      have eo' := (k3 (S'.length + 1) (by omega)).trans hbo3
      have hbnL := hok.bound
      have hg400 := hg.len
      simp +contextual (dsimp := false) [eo', wrap_succ (show i < 9223372036854775807 by omega)]
      refine LoopN.of (i + 1, H4.set (S'.length + 1) _, .slice a4 (i + 1) z4, F4) rfl ⟨h9, fun j hj => (List.getElem?_set_ne (by omega)).trans ((k3 j (by omega)).trans ((hfr1 j (by omega)).trans ((hne j (by omega)).trans (hfr j hj)))), by simp; omega, hmp3.fr ((List.getElem?_set_ne (by omega)).trans (k3 _ (by omega))), ?_, ?_, p2⟩ (by dsimp only; omega)
      · exact List.getElem?_set_self (by omega)
      · exact Rp.fr p1 fun j hj => List.getElem?_set_ne (by rintro rfl; have := p2.1 _ hj; omega)
  · rw [List.take_of_length_le (by rw [cutL_len]; omega)] at hv
    have hil : i = L.2.length := by omega
    simp +contextual (dsimp := false) [hbo]
    refine CallK.fl ⟨_, Try.func70, rfl, rfl⟩ (accValid_ac hv) ?_
    simp +contextual (dsimp := false)
    have hbr2 : hp[H.length + 2]? = _ := (hfr _ (by omega)).trans hbr
    have es : ∀ b : Blk, (hp.set (H.length + 2) b)[H.length + 2]? = some b := fun b => List.getElem?_set_self (by omega)
    have hx : ∀ b : Blk, Ext H (hp.set (H.length + 2) b) := fun b j hj => (List.getElem?_set_ne (by omega)).trans ((hfr j (by omega)).trans (hx3 j hj))
    refine ifA_intro (fun h11 => ?_) (fun h11 => ?_)
    · rw [hcut, if_pos h11]
      simp +contextual (dsimp := false) [hbo, hbr2, es]
      exact ⟨hx _, F, Rp.fr hv fun j hj => List.getElem?_set_ne (by have := hf.1 j hj; omega), hf.weak (by omega)⟩
    · rw [hcut, if_neg (by simp [h11])]
      simp +contextual (dsimp := false) [hbo, hbr2, es]
      exact ⟨hx _, [], SlR.nil, Fresh.nil _⟩
end Go.Proofs.Ytehhjbomdohgoaa

/- Cut, the reference's. No condition. -/
set_option linter.unusedSimpArgs false
set_option linter.unusedVariables false
namespace Go.Proofs.Ytehhjbomdohgoaa
open Go Go.Am Go.Proofs
set_option maxRecDepth 20000
variable {ng : Nat}
set_option maxHeartbeats 4000000 in
theorem specCut_ac {ds : List Deed} {sd : Value} {FD : List Nat} {H : Heap} (hs : DeedsR true H ds [sd] FD) {n : List UInt8} (hn : okS n) :
    AC Try.prog ng 24 [.agg #[sd], str n] H fun v S' => ∃ s' F', v = .agg #[s'] ∧ Ext H S' ∧ DeedsR true S' (cutAcc ds n) [s'] F' ∧ Fresh H.length F' := by
  obtain ⟨ad, zd, rfl⟩ := hs.form
  refine AC.go [(10, .take 0 <| .take 2 <| .take 3 <| .take 4 <| .take 6 <| .take 1 <| .take 5 <| .take 7 <| .take 8 <| .take 9 <| .take 10 <| .one 11 [1, 5, 8, 10] <| .one 12 [] <| .done), (15, .take 0 <| .take 2 <| .take 4 <| .take 6 <| .take 1 <| .take 3 <| .take 5 <| .take 7 <| .take 8 <| .take 9 <| .one 10 [1] <| .take 11 <| .take 12 <| .one 13 [] <| .done)] Try.func24 rfl Try.ntmps24 rfl ⟨mixed, by kernel_rfl⟩ ?_
  simp +contextual (dsimp := false)
  refine CallK.fl ⟨_, Try.func67, rfl, rfl⟩ (l3At_ac (Rp.ext hs (Ext.app _ _)) n) ?_
  simp +contextual (dsimp := false)
  refine CallK.fl ⟨_, Try.func68, rfl, rfl⟩ (l3Ok_ac (Rp.ext hs (Ext.app _ _))) ?_
  cases h1 : accOk ds
  · rw [cut_bad h1]
    simp +contextual (dsimp := false)
    exact ⟨[], SlR.nil, Fresh.nil _⟩
  have hg := accOk_good h1
  have hw : ∀ d ∈ ds, d.action.length ≤ 1048576 ∧ d.links.length ≤ 1048576 := fun d hd => by have := hg.small d hd; omega
  rcases idxI_cases ds n with ⟨e1, e2⟩ | ⟨r, e1, e2, hr⟩
  · rw [cut_none e1, e2]
    simp +contextual (dsimp := false)
    exact ⟨[], SlR.nil, Fresh.nil _⟩
  have hcut := cut_some h1 e1
  rw [e2]
  simp +contextual (dsimp := false)
  refine CallK.of ⟨_, Try.func55, rfl, rfl⟩ (l3Order_ac hg.back (by have := hg.len; omega) (Rp.ext hs (Ext.app _ _)) r hr) ?_
  rintro v S1 ⟨ph, base, sl, Fl, so, Fo, rfl, he1, W⟩
  have hok := (listing_ok hg.back hr).1
  have hcl := listing_closed hg.back hr
  have hbn := hok.bound
  have hg4 := hg.len
  generalize hL : listing ds r = L at *
  obtain ⟨ao, zo, hso⟩ := W.ord.form
  subst hso
  have hx1 : Ext H S1 := fun j hj => (he1 j (by simp; omega)).trans (get_ext hj)
  have hle1 := he1.le
  simp only [List.length_append, List.length_cons, List.length_nil] at hle1
  have hbr : S1[H.length + 1]? = some (⟨.cells #[.slice none 0 0] 43 (0, 0), true, true⟩ : Blk) := (he1 _ (by simp)).trans (by simp)
  have hba : S1[H.length]? = some (⟨.cells #[.slice ad ds.length zd] 43 (0, 0), true, true⟩ : Blk) := (he1 _ (by simp)).trans (by simp)
  simp +contextual (dsimp := false) [hba]
  refine CallK.of ⟨_, Try.func69, rfl, rfl⟩ (l3Copy_ac (Rp.ext hs hx1) ⟨by omega, hw⟩) ?_
  rintro v S2 ⟨s2, FA, rfl, he2, hA, hfA⟩
  obtain ⟨aa, za, rfl⟩ := hA.form
  have hle2 := he2.le
  obtain ⟨id, o, c, e, f, ow, Fs, hbA, hidA, hEl, hFs⟩ := SlR.parts hA (by intro h; simp [h] at hg4) hfA.2
  have hph : S1[ph]? = _ := W.bh
  have hphl := W.le
  have hord := W.ord
  have hordl := Rp.lt hord
  simp +contextual (dsimp := false)
  have hFA : ∀ j ∈ FA, j < S2.length := Rp.lt hA
  refine LoopA.up (σ := Nat × Heap × Value × List Nat) [4, 6, 7, 8, 9] (fun x => [(9, int x.1)]) (fun x => x.2.1)
    (fun x => x.1 ≤ L.2.length ∧ (∀ j, j < S1.length → x.2.1[j]? = S1[j]?) ∧ S2.length + 2 ≤ x.2.1.length ∧
      x.2.1[S2.length]? = some ⟨.cells #[.slice aa ds.length za] 43 (0, 0), true, true⟩ ∧
      x.2.1[S2.length + 1]? = some ⟨.cells #[x.2.2.1] 43 (0, 0), true, true⟩ ∧
      x.2.1[id]? = S2[id]? ∧ (∀ r : Nat, (r : Int) ∉ L.2.take x.1 → ∀ j ∈ Fs r, x.2.1[j]? = S2[j]? ∧ j ∉ x.2.2.2) ∧
      DeedsR true x.2.1 ((cutL ds L.2).take x.1) [x.2.2.1] x.2.2.2 ∧ Fresh S1.length x.2.2.2 ∧ id ∉ x.2.2.2 ∧ S2.length ∉ x.2.2.2 ∧ S2.length + 1 ∉ x.2.2.2)
    (fun x => L.2.length - x.1) (0, _, .slice none 0 0, []) rfl ⟨by simp, fun j hj => (get_ext (by omega)).trans (he2 j hj), by simp, by simp, by simp, get_ext (hFA _ hidA), fun r _ j hj => ⟨get_ext (hFA _ ((hFs r).2.2.1 j hj)), by simp⟩, SlR.nil, Fresh.nil _, by simp, by simp, by simp⟩ ?_
  rintro ⟨i, hp, s, F⟩ ⟨hi, hfr, hle, hbl, hbo, hid, hmv, hv, hf, hn1, hn2, hn3⟩
  dsimp only at hi hfr hle hbl hbo hid hmv hv hf hn1 hn2 hn3
  obtain ⟨a0, z0, rfl⟩ := hv.form
  have hli : ((cutL ds L.2).take i).length = i := by simp [cutL_len]; omega
  rw [hli] at hv hbo
  have hbp : hp[ph]? = _ := (hfr _ (by omega)).trans hph
  simp +contextual (dsimp := false) [hbp]
  refine ifA_dec (fun h9 => ?_) (fun h9 => ?_)
  · obtain ⟨id1, o1, c1, e1', f1, ow1, cs1, Fi1, E⟩ := SlR.get (Rp.fr hord (H' := hp) fun j hj => hfr j (hordl j hj)) i h9
    obtain ⟨rfl, rfl, -⟩ := E.rep
    have hin := ord_in hok h9
    obtain ⟨q, hq⟩ : ∃ q : Nat, L.2[i] = q := ⟨L.2[i].toNat, by omega⟩
    have hql : q < ds.length := by omega
    have hqn : (q : Int) ∉ L.2.take i := fun hm => by
      obtain ⟨k, hk, he⟩ := List.mem_take_iff_getElem.1 hm
      exact List.pairwise_iff_getElem.1 hok.nd2 k i (by omega) h9 (by omega) (he.trans hq.symm)
    obtain ⟨x1, x2, cs, x3, hrep⟩ := hEl q hql
    have hmq := hmv q hqn
    have hrep2 : DeedR true hp ds[q] cs (Fs q) := Rp.fr hrep fun j hj => (hmq j hj).1
    obtain ⟨hkk, s1, s2, G1, G2, rfl, hFi, hc1, hc2⟩ := hrep2
    obtain ⟨a1, z1, rfl⟩ := hc1.form
    obtain ⟨a2, z2, rfl⟩ := hc2.form
    have hbid : hp[id]? = _ := hid.trans hbA
    have hidl : id < hp.length := by have := hFA _ hidA; omega
    have t1 : ∀ T : Heap, (hp ++ T)[S2.length]? = _ := fun T => (get_ext (by omega)).trans hbl
    have t2 : ∀ T : Heap, (hp ++ T)[ph]? = _ := fun T => (get_ext (by omega)).trans hbp
    have t3 : ∀ T : Heap, (hp ++ T)[id]? = _ := fun T => (get_ext hidl).trans hbid
    have t4 : ∀ T : Heap, (hp ++ T)[id1]? = _ := fun T => (get_ext E.lt).trans E.blk
    simp +contextual (dsimp := false) [E.idx, E.le, E.goB, E.cell0 (by decide), hq, hbl, hbid, hbp, t1, t2, t3, t4, x1, x2, x3]
    obtain ⟨H2, hH2⟩ : ∃ H2, H2 = hp ++ [(⟨.cells #[str ds[q].name, int ds[q].kind, int ds[q].code, str ds[q].text, .slice a1 ds[q].action.length z1, .slice a2 ds[q].links.length z2] 91 (0, 0), true, true⟩ : Blk)] := ⟨_, rfl⟩
    rw [← hH2]
    have hx2 : Ext hp H2 := by rw [hH2]; exact Ext.app _ _
    have hl2 : H2.length = hp.length + 1 := by rw [hH2]; simp
    have hbd : H2[hp.length]? = some (⟨.cells #[str ds[q].name, int ds[q].kind, int ds[q].code, str ds[q].text, .slice a1 ds[q].action.length z1, .slice a2 ds[q].links.length z2] 91 (0, 0), true, true⟩ : Blk) := by rw [hH2]; simp
    have hFq := hFs q
    rw [hFi] at hFq hmq
    obtain ⟨nd, nid, nFA, ndj⟩ := hFq
    obtain ⟨nd1, nd2, nd12⟩ := List.nodup_append.1 nd
    have hG : ∀ j ∈ G1 ++ G2, S1.length ≤ j ∧ j < S2.length ∧ j ∉ F := fun j hj => ⟨hfA.1 j (nFA j hj), hFA j (nFA j hj), (hmq j hj).2⟩
    have hG2 : ∀ j ∈ G2, S1.length ≤ j ∧ j < S2.length ∧ j ∉ F := fun j hj => hG j (List.mem_append_right _ hj)
    have hb2 := hc2.bound
    refine LoopA.up (σ := Nat × Heap) [4, 6, 7, 8, 9, 10, 11] (fun x => [(11, int x.1)]) (fun x => x.2)
      (fun x => x.1 ≤ ds[q].links.length ∧ LnksR true x.2 (mapP (cutK L.2) ds[q].links x.1) [.slice a2 ds[q].links.length z2] G2 ∧ x.2.length = H2.length ∧ ∀ j, j ∉ G2 → x.2[j]? = H2[j]?)
      (fun x => ds[q].links.length - x.1) (0, H2) rfl ⟨by simp, by rw [mapP_z]; exact Rp.ext hc2 hx2, rfl, fun _ _ => rfl⟩ ?_
    rintro ⟨k, h3⟩ ⟨hk, hv3, hl3, hf3⟩
    dsimp only at hk hv3 hl3 hf3
    have hbd3 : h3[hp.length]? = _ := (hf3 _ fun hm => by have := hG2 _ hm; omega).trans hbd
    have hfr1 : ∀ j, j < hp.length → j ∉ G2 → h3[j]? = hp[j]? := fun j hj hm => (hf3 j hm).trans (hx2 j hj)
    have hbo3 : h3[S2.length + 1]? = _ := (hfr1 _ (by omega) fun hm => by have := hG2 _ hm; omega).trans hbo
    have hv3o : DeedsR true h3 ((cutL ds L.2).take i) [.slice a0 i z0] F := Rp.fr hv fun j hj => hfr1 j (Rp.lt hv j hj) fun hm => (hG2 j hm).2.2 hj
    simp +contextual (dsimp := false) [hbd3]
    refine ifA_dec (fun h10 => ?_) (fun h10 => ?_)
    · obtain ⟨id3, o3, c3, e3, f3, ow3, cs3, Fi3, E3⟩ := SlR.get hv3 k (by rw [mapP_len]; exact h10)
      have hrep := E3.rep
      rw [mapP_get h10] at hrep
      obtain ⟨rfl, rfl, hok3⟩ := hrep
      obtain rfl := E3.own' rfl
      have hle3' := E3.le
      have hlk : ds[q].links[k] ∈ (dAt ds L.2[i].toNat).links := by rw [hq, Int.toNat_natCast, dAt_lt hql]; exact List.getElem_mem _
      have hca := cut_at hg hok hcl h9 hlk
      have hsame := mapP_same (f := cutK L.2) h10
      have hset := mapP_s (f := cutK L.2) h10
      have hput := fun v x' => E3.set1 (v := v) (x' := x') (k := 3) nd2 rfl (by decide)
      have hck : cutK L.2 ds[q].links[k] = if ds[q].links[k].ask then { ds[q].links[k] with at_ := (L.2.idxOf ds[q].links[k].at_ : Nat) } else ds[q].links[k] := rfl
      generalize ds[q].links[k] = l at *
      cases ha : l.ask
      · rw [ha] at hck
        simp +contextual (dsimp := false) [hbd3, E3.idx, E3.goB, E3.le, E3.lt, E3.cell 1 (by omega), Lnk.c, ha, show o3 + 1 + 1 ≤ c3.size by omega, wrap_succ (show k < 9223372036854775807 by omega)]
        exact LoopN.of (k + 1, h3) rfl ⟨h10, by rw [← hsame hck]; exact hv3, hl3, hf3⟩ (by dsimp only; omega)
      · rw [ha] at hck
        simp +contextual (dsimp := false) [hbd3, hbo3, E3.idx, E3.goB, E3.le, E3.lt, E3.cell 1 (by omega), E3.cell0 (by decide), Lnk.c, ha, show o3 + 1 ≤ c3.size by omega, show o3 + 1 + 1 ≤ c3.size by omega, wrap_succ (show k < 9223372036854775807 by omega)]
        refine CallK.fl ⟨_, Try.func67, rfl, rfl⟩ (l3At_ac hv3o l.name) ?_
        rw [(hca ha).2]
        simp +contextual (dsimp := false) [hbd3, E3.idx, E3.goB, goB_self E3.lt, E3.le, show o3 + 3 + 1 ≤ c3.size by omega, wrap_succ (show k < 9223372036854775807 by omega)]
        rw [if_pos rfl] at hck
        rw [hck] at hset
        have hix := List.idxOf_le_length (l := L.2) (a := l.at_)
        refine LoopN.of (k + 1, h3.set id3 _) rfl ⟨h10, ?_, by simp [hl3], fun j hj => (List.getElem?_set_ne (by rintro rfl; exact hj E3.mem)).trans (hf3 j hj)⟩ (by dsimp only; omega)
        dsimp only
        rw [← hset]
        exact hput _ _ ⟨rfl, rfl, hok3.1, by dsimp only; omega, by dsimp only; omega⟩
    · rw [mapP_all (by omega)] at hv3
      simp +contextual (dsimp := false) [hbo3, hbd3]
      have hvA3 : CodeR true h3 ds[q].action [.slice a1 ds[q].action.length z1] G1 := Rp.fr hc1 fun j hj => hfr1 j (Rp.lt hc1 j hj) fun hm => nd12 j hj j hm rfl
      refine AppK.one (R := DeedR true) (l := (cutL ds L.2).take i) (ex := 91) (fx := (0, 0)) (ox := true) (base := S1.length) (x := cutD L.2 ds[q]) (cx := [str ds[q].name, int ds[q].kind, int ds[q].code, str ds[q].text, .slice a1 ds[q].action.length z1, .slice a2 ds[q].links.length z2]) (Fx := G1 ++ G2) slt41 und41 ?_ hf ?_ ?_ ⟨fun j hj => (hG j hj).1, nd⟩ ?_ ?_ ?_ (by decide) ?_
      · exact Rp.ext hv3o (Ext.app _ _)
      · simp
      · exact ⟨hkk, _, _, _, _, rfl, rfl, Rp.ext hvA3 (Ext.app _ _), Rp.ext hv3 (Ext.app _ _)⟩
      · exact fun j hj => (hG j hj).2.2
      · simp; omega
      · omega
      intro s4 H4 F4 p1 p2 p3 p4 p5
      have hci : (cutL ds L.2)[i]'(by rw [cutL_len]; exact h9) = cutD L.2 ds[q] := by rw [cutL_get, hq, Int.toNat_natCast, dAt_lt hql]
      rw [← hci, ← List.take_succ_eq_append_getElem (by rw [cutL_len]; exact h9)] at p1
      obtain ⟨a4, z4, rfl⟩ := p1.form
      have hli2 : ((cutL ds L.2).take (i + 1)).length = i + 1 := by simp [cutL_len]; omega
      rw [hli2] at p1 ⊢
      simp only [List.length_append, List.length_cons, List.length_nil] at p3
      have k3 : ∀ j, j < hp.length → j ∉ F → j ∉ G2 → H4[j]? = hp[j]? := fun j hj hm hm2 => (p4 j (by simp; omega) hm).trans ((get_ext (by omega)).trans (hfr1 j hj hm2))
      have k1 : ∀ j, j < S1.length → H4[j]? = hp[j]? := fun j hj => k3 j (by omega) (fun hm => by have := hf.1 j hm; omega) fun hm => by have := hG2 j hm; omega
      have eo' := (k3 (S2.length + 1) (by omega) hn3 (fun hm => by have := hG2 _ hm; omega)).trans hbo
      simp +contextual (dsimp := false) [eo', wrap_succ (show i < 9223372036854775807 by omega)]
      have hF4 : ∀ j, j < hp.length → j ∉ F → j ∉ G1 ++ G2 → j ∉ F4 := fun j h1 h2 h3 hm => by
        rcases p5 j hm with h | h | h
        · exact h2 h
        · exact h3 h
        · simp at h; omega
      have hGn : ∀ j, S2.length ≤ j → j ∉ G1 ++ G2 := fun j hj hm => by have := hG j hm; omega
      refine LoopN.of (i + 1, H4.set (S2.length + 1) _, .slice a4 (i + 1) z4, F4) rfl ⟨h9, fun j hj => (List.getElem?_set_ne (by omega)).trans ((k1 j hj).trans (hfr j hj)), by simp; omega, (List.getElem?_set_ne (by omega)).trans ((k3 _ (by omega) hn2 fun hm => hGn _ (Nat.le_refl _) (List.mem_append_right _ hm)).trans hbl), ?_, ?_, ?_, ?_, p2, ?_, ?_, ?_⟩ (by dsimp only; omega)
      · exact List.getElem?_set_self (by omega)
      · have := hFA _ hidA
        exact (List.getElem?_set_ne (by omega)).trans ((k3 _ (by omega) hn1 fun hm => nid (List.mem_append_right _ hm)).trans hid)
      · intro r' hr' j hj
        dsimp only at hr' hj ⊢
        rw [List.take_succ_eq_append_getElem h9, List.mem_append] at hr'
        have hrq : q ≠ r' := fun hc => hr' (.inr (by rw [hq, hc]; simp))
        obtain ⟨m1, m2⟩ := hmv r' (fun hm => hr' (.inl hm)) j hj
        have hjl := hFA _ ((hFs r').2.2.1 j hj)
        have hjg : j ∉ G1 ++ G2 := fun hm => ndj r' hrq j hm hj
        refine ⟨(List.getElem?_set_ne (by omega)).trans ((k3 j (by omega) m2 fun hm => hjg (List.mem_append_right _ hm)).trans m1), hF4 j (by omega) m2 hjg⟩
      · exact Rp.fr p1 fun j hj => List.getElem?_set_ne (by rintro rfl; exact hF4 _ (by omega) hn3 (hGn _ (by omega)) hj)
      · exact hF4 _ (by have := hFA _ hidA; omega) hn1 nid
      · exact hF4 _ (by omega) hn2 (hGn _ (by omega))
      · exact hF4 _ (by omega) hn3 (hGn _ (by omega))
  · rw [List.take_of_length_le (by rw [cutL_len]; omega)] at hv
    have hil : i = L.2.length := by omega
    simp +contextual (dsimp := false) [hbo]
    refine CallK.fl ⟨_, Try.func68, rfl, rfl⟩ (l3Ok_ac hv) ?_
    simp +contextual (dsimp := false)
    have hbr2 : hp[H.length + 1]? = _ := (hfr _ (by omega)).trans hbr
    have es : ∀ b : Blk, (hp.set (H.length + 1) b)[H.length + 1]? = some b := fun b => List.getElem?_set_self (by omega)
    have hx : ∀ b : Blk, Ext H (hp.set (H.length + 1) b) := fun b j hj => (List.getElem?_set_ne (by omega)).trans ((hfr j (by omega)).trans (hx1 j hj))
    refine ifA_intro (fun h11 => ?_) (fun h11 => ?_)
    · rw [hcut, if_pos h11]
      simp +contextual (dsimp := false) [hbo, hbr2, es]
      exact ⟨hx _, F, Rp.fr hv fun j hj => List.getElem?_set_ne (by have := hf.1 j hj; omega), hf.weak (by omega)⟩
    · rw [hcut, if_neg (by simp [h11])]
      simp +contextual (dsimp := false) [hbo, hbr2, es]
      exact ⟨hx _, [], SlR.nil, Fresh.nil _⟩
end Go.Proofs.Ytehhjbomdohgoaa

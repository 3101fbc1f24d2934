import Derived.Test.YtephpieeibcihaaGreatDoorAcc
import Derived.Test.YtephpieeibcihaaGreatDoorFow
import Derived.Test.YtephpieeibcihaaGreatDoorAdw
set_option linter.all false
namespace Go.Am
open Go
def idxD (ds : List Deed) (n : List UInt8) : Option Nat := firstI ds.length fun i => decide ((dAt ds i).name = n)
structure Good (ds : List Deed) : Prop where
  len : 0 < ds.length ∧ ds.length ≤ 400
  ok : ∀ j (hj : j < ds.length), deedOk ds j ds[j] = true
  nd : ∀ j (hj : j < ds.length), ds[j].name ∉ (ds.take j).map (·.name)
theorem Good.back {ds : List Deed} (h : Good ds) : Go.Am.back ds := deedOk_back fun i hi => by rw [dAt_lt hi]; exact h.ok i hi
theorem Good.names {ds : List Deed} (h : Good ds) {i j : Nat} (hi : i < ds.length) (hj : j < ds.length) (hne : i ≠ j) : (dAt ds i).name ≠ (dAt ds j).name := by
  have key : ∀ i j (hi : i < ds.length) (hj : j < ds.length), i < j → ds[i].name ≠ ds[j].name := fun i j hi hj hlt he =>
    h.nd j hj (List.mem_map.2 ⟨ds[i], List.mem_take_iff_getElem.2 ⟨i, by omega, rfl⟩, he⟩)
  rw [dAt_lt hi, dAt_lt hj]
  rcases Nat.lt_or_gt_of_ne hne with h' | h'
  · exact key i j hi hj h'
  · exact fun he => key j i hj hi h' he.symm
theorem Good.link {ds : List Deed} (h : Good ds) {i : Nat} (hi : i < ds.length) {l : Lnk} (hl : l ∈ (dAt ds i).links) (ha : l.ask = true) : 0 ≤ l.at_ ∧ l.at_ < i ∧ (dAt ds l.at_.toNat).name = l.name := by
  obtain ⟨h1, h2⟩ := h.back i hi l hl ha
  refine ⟨h1, h2, ?_⟩
  have := h.ok i hi
  rw [dAt_lt hi] at hl
  simp only [deedOk, Bool.and_eq_true] at this
  obtain ⟨-, h3⟩ := this
  split at h3
  · simp only [plainD, Bool.and_eq_true, decide_eq_true_eq] at h3
    rw [List.length_eq_zero_iff.1 h3.2] at hl
    cases hl
  · split at h3
    · simp only [plainD, Bool.and_eq_true, decide_eq_true_eq] at h3
      rw [List.length_eq_zero_iff.1 h3.1.2] at hl
      cases hl
    · split at h3
      · simp only [Bool.and_eq_true, List.all_eq_true] at h3
        have := h3.2 l hl
        simp only [linkOk, ha, if_true, Bool.and_eq_true, decide_eq_true_eq] at this
        exact this.2.2
      · cases h3
def idxI (ds : List Deed) (n : List UInt8) : Int := match idxD ds n with
  | some i => i
  | none => -1
theorem idxI_hit {ds : List Deed} {n : List UInt8} {i : Nat} (hi : i < ds.length) (h : ds[i].name = n) (hb : ∀ j (hj : j < ds.length), j < i → ds[j].name ≠ n) : idxI ds n = i := by
  unfold idxI idxD
  rw [firstI_hit hi (by rw [dAt_lt hi]; simp [h]) (fun j hj => by rw [dAt_lt (show j < ds.length by omega)]; simp [hb j (by omega) hj])]
theorem idxI_none {ds : List Deed} {n : List UInt8} (hb : ∀ j (hj : j < ds.length), ds[j].name ≠ n) : idxI ds n = -1 := by
  unfold idxI idxD
  rw [firstI_none (fun j hj => by rw [dAt_lt hj]; simp [hb j hj])]
section
variable {α : Type} {f : α → α} {l : List α} {j : Nat}
end
theorem Good.small {ds : List Deed} (h : Good ds) : ∀ d ∈ ds, d.action.length ≤ 200 ∧ d.links.length ≤ 200 := by
  intro d hd
  obtain ⟨i, hi, rfl⟩ := List.mem_iff_getElem.1 hd
  have := h.ok i hi
  simp only [deedOk, Bool.and_eq_true] at this
  obtain ⟨-, h3⟩ := this
  split at h3
  · simp only [plainD, Bool.and_eq_true, decide_eq_true_eq] at h3
    omega
  · split at h3
    · simp only [plainD, Bool.and_eq_true, decide_eq_true_eq] at h3
      omega
    · split at h3
      · simp only [Bool.and_eq_true, decide_eq_true_eq, validP] at h3
        omega
      · cases h3
theorem sumN_bd {α : Type} {m : α → Nat} {c : Nat} : ∀ {l : List α}, (∀ x ∈ l, m x ≤ c) → sumN m l ≤ c * l.length
  | [], _ => by simp [sumN]
  | x :: l, h => by
    have h1 := h x (by simp)
    have h2 := sumN_bd (m := m) (c := c) (l := l) fun y hy => h y (by simp [hy])
    rw [sumN_cons, List.length_cons, Nat.mul_add]
    omega
theorem Good.m {ds : List Deed} (h : Good ds) : sumN Deed.m ds ≤ 600000 := by
  have h1 : sumN Deed.m ds ≤ 1404 * ds.length := sumN_bd fun d hd => by
    have h2 := h.small d hd
    have h3 : sumN Ins.m d.action ≤ 3 * d.action.length := sumN_bd fun _ _ => Nat.le_refl 3
    have h4 : sumN Lnk.m d.links ≤ 4 * d.links.length := sumN_bd fun _ _ => Nat.le_refl 4
    simp only [Deed.m]
    omega
  have := h.len
  omega
end Go.Am
namespace Go.Am
open Go
def LinkFit (sp : Spc) (ds : List Deed) (i : Nat) (l : Lnk) : Prop :=
  nameOk l.name = true ∧ (l.ask = true → l.has = false ∧ 0 ≤ l.at_ ∧ l.at_ < i ∧ (dAt ds l.at_.toNat).name = l.name) ∧ (l.ask = false → l.at_ = 0 ∧ l.has = hasN sp l.name)
def DeedFit (sp : Spc) (ds : List Deed) (i : Nat) (d : Deed) : Prop := nameOk d.name = true ∧
  ((d.name ∈ sNames sp ∧ d.name ∉ tNames sp ∧ d = ⟨d.name, 1, 0, souT sp d.name, [], []⟩) ∨
   (d.name ∉ sNames sp ∧ d.name ∉ tNames sp ∧ d = ⟨d.name, 2, 0, [], [], []⟩) ∨
   (d.name ∉ sNames sp ∧ d.name ∈ tNames sp ∧ d.kind = 3 ∧ d.action = tgtA sp d.name ∧ 0 ≤ d.code ∧ d.code ≤ 5 ∧ d.text.length ≤ 2000 ∧ d.links.length ≤ 200 ∧ ∀ l ∈ d.links, LinkFit sp ds i l))
def AllFit (sp : Spc) (ds : List Deed) : Prop := ∀ i (h : i < ds.length), DeedFit sp ds i ds[i]
theorem dAt_pre {ds ds' : List Deed} (h : ds <+: ds') {i : Nat} (hi : i < ds.length) : dAt ds' i = dAt ds i := by
  obtain ⟨t, rfl⟩ := h
  simp [dAt, List.getD, List.getElem?_append_left hi]
theorem LinkFit.pre {sp : Spc} {ds ds' : List Deed} {i i' : Nat} {l : Lnk} (h : LinkFit sp ds i l) (hp : ds <+: ds') (hi : i ≤ ds.length) (hii : i ≤ i') : LinkFit sp ds' i' l := by
  obtain ⟨h1, h2, h3⟩ := h
  refine ⟨h1, fun ha => ?_, h3⟩
  obtain ⟨g1, g2, g3, g4⟩ := h2 ha
  exact ⟨g1, g2, by omega, by rw [dAt_pre hp (by omega)]; exact g4⟩
theorem DeedFit.pre {sp : Spc} {ds ds' : List Deed} {i : Nat} {d : Deed} (h : DeedFit sp ds i d) (hp : ds <+: ds') (hi : i ≤ ds.length) : DeedFit sp ds' i d := by
  obtain ⟨h0, h | h | ⟨g1, g2, g3, g4, g5, g6, g7, g8, g9⟩⟩ := h
  · exact ⟨h0, .inl h⟩
  · exact ⟨h0, .inr (.inl h)⟩
  · exact ⟨h0, .inr (.inr ⟨g1, g2, g3, g4, g5, g6, g7, g8, fun l hl => (g9 l hl).pre hp hi (Nat.le_refl _)⟩)⟩
theorem AllFit.put {sp : Spc} {ds : List Deed} {d : Deed} (h : AllFit sp ds) (hd : DeedFit sp ds ds.length d) : AllFit sp (ds ++ [d]) := by
  intro i hi
  have hp : ds <+: ds ++ [d] := List.prefix_append _ _
  rcases Nat.lt_or_ge i ds.length with h1 | h1
  · rw [List.getElem_append_left h1]
    exact (h i h1).pre hp (by omega)
  · obtain rfl : i = ds.length := by simp at hi; omega
    rw [List.getElem_append_right (by omega)]
    simp only [Nat.sub_self, List.getElem_cons_zero]
    exact hd.pre hp (Nat.le_refl _)
theorem AllFit.nil {sp : Spc} : AllFit sp [] := fun i hi => by simp at hi
def MkFit (sp : Spc) : Mk → Prop
  | .at_ i ds => AllFit sp ds
  | .stop r => True
def RnFit (sp : Spc) : Rn → Prop
  | .done c t ds ls => AllFit sp ds ∧ ∀ l ∈ ls, LinkFit sp ds ds.length l
  | .stop r => True
theorem runM_fit {sp : Spc} {way : List (List UInt8)} {code : List Ins} {mk : List Deed → List UInt8 → Mk} (hc : validP code = true)
    (hmk : ∀ ds n, MkOk sp way ds → nameOk n = true → MkEnd sp way ds n 1 (mk ds n)) (hft : ∀ ds n, MkOk sp way ds → nameOk n = true → AllFit sp ds → MkFit sp (mk ds n)) :
    ∀ (f : Nat) (o : Out) (ds : List Deed) (ls : List Lnk), ls.length + f = 200 → LookAt (ls.length + 1) o → MkOk sp way ds → AllFit sp ds → (∀ l ∈ ls, LinkFit sp ds ds.length l) → RnFit sp (runM mk sp code f o ds ls)
  | f, .go m, ds, ls, _, _, _, ha, hl => by
    cases f <;> exact ⟨ha, hl⟩
  | f, .fin c t n, ds, ls, hf, _, hk, ha, hl => by
    cases f <;> exact ⟨ha, hl⟩
  | 0, .look a n m, ds, ls, hf, hl, _, ha, hll => ⟨ha, hll⟩
  | f + 1, .look a n m, ds, ls, hf, hl, hk, ha, hll => by
    have h := hl a n m rfl
    cases a with
    | true =>
      simp only [runM, if_true]
      have hm := hmk ds n hk h.2.2.2.2.1
      have hm2 := hft ds n hk h.2.2.2.2.1 ha
      cases hmm : mk ds n with
      | stop r => trivial
      | at_ i ds' =>
        rw [hmm] at hm hm2
        obtain ⟨m1, m2, m3, m4, m5⟩ := hm
        have hr : replyOk (replyD (dAt ds' i)) = true := by
          rw [dAt_lt m3]
          exact (m1.fit _ (List.getElem_mem m3)).1
        have h2 := resume_at hc hl hr
        dsimp only
        refine runM_fit hc hmk hft f _ ds' _ (by simp; omega) (by simpa using h2.1) m1 hm2 fun l hl' => ?_
        rcases List.mem_append.1 hl' with hl' | hl'
        · exact (hll l hl').pre m2 (Nat.le_refl _) m2.length_le
        · rw [List.mem_singleton.1 hl']
          exact ⟨h.2.2.2.2.1, fun _ => ⟨rfl, Int.natCast_nonneg _, by dsimp only; omega, by dsimp only; rw [Int.toNat_natCast]; exact m4⟩, fun hc => (by cases hc)⟩
    | false =>
      simp only [runM, Bool.false_eq_true, if_false]
      have hr : replyOk ⟨hasN sp n, 0, []⟩ = true := by simp [replyOk]
      have h2 := resume_at hc hl hr
      refine runM_fit hc hmk hft f _ ds _ (by simp; omega) (by simpa using h2.1) hk ha fun l hl' => ?_
      rcases List.mem_append.1 hl' with hl' | hl'
      · exact hll l hl'
      · rw [List.mem_singleton.1 hl']
        exact ⟨h.2.2.2.2.1, fun hc => (by cases hc), fun _ => ⟨rfl, rfl⟩⟩
theorem makeM_fit {sp : Spc} (hsp : checkSpace sp = 0) : ∀ (f : Nat) (way : List (List UInt8)) (ds : List Deed) (n : List UInt8), f + way.length = 61 → way.length ≤ 60 → MkOk sp way ds → nameOk n = true → AllFit sp ds → MkFit sp (makeM sp f way ds n)
  | 0, way, ds, n, hf, hw, _, _, _ => by omega
  | f + 1, way, ds, n, hf, hw, hk, hn, ha => by
    obtain ⟨q1, q2, q3, q4, q5, q6⟩ := checkSpace_ok hsp
    rw [makeM]
    by_cases c1 : n ∈ namesD ds
    · rw [if_pos c1]
      exact ha
    rw [if_neg c1]
    by_cases c2 : n ∈ sNames sp
    · rw [if_pos c2]
      obtain ⟨h, h1, h2⟩ := souT_at c2
      have c3 : n ∉ tNames sp := fun c3 => q6.1 _ (List.getElem_mem h) (by rw [h2]; exact c3)
      exact ha.put ⟨hn, .inl ⟨c2, c3, rfl⟩⟩
    rw [if_neg c2]
    by_cases c3 : n ∈ tNames sp
    · rw [if_neg (by simpa using c3)]
      by_cases c4 : n ∈ way
      · rw [if_pos c4]
        trivial
      rw [if_neg c4]
      by_cases c5 : way.length = 60
      · rw [if_pos c5]
        trivial
      rw [if_neg c5]
      have hc := tgtA_ok hsp c3
      have hkw : MkOk sp (way ++ [n]) ds := by
        refine ⟨hk.nd, List.nodup_append.2 ⟨hk.wnd, by simp, fun a ha b hb hab => ?_⟩, fun x hx => ?_, hk.fit⟩
        · simp only [List.mem_singleton] at hb
          exact c4 (by rw [← hb, ← hab]; exact ha)
        · rcases List.mem_append.1 hx with hx | hx
          · exact hk.wt x hx
          · rw [List.mem_singleton.1 hx]
            exact ⟨c3, c1⟩
      have hs := start_ok
      have hmk := fun (ds : List Deed) (n' : List UInt8) (h1 : MkOk sp (way ++ [n]) ds) (h2 : nameOk n' = true) => makeM_ok hsp f (way ++ [n]) ds n' (by simp; omega) (by simp; omega) h1 h2
      have hR := runM_ok hc (mk := fun ds n' => makeM sp f (way ++ [n]) ds n') (sp := sp) (way := way ++ [n]) hmk 200 (run (tgtA sp n) start) ds []
        (by simp) (run_lookAt hc _ start hs rfl) (run_finOk hc _ start hs rfl) (fun m => run_ng _ _ start m rfl hs.steps) hkw
      have hF := runM_fit hc (mk := fun ds n' => makeM sp f (way ++ [n]) ds n') (sp := sp) (way := way ++ [n]) hmk (fun ds n' h1 h2 h3 => makeM_fit hsp f (way ++ [n]) ds n' (by simp; omega) (by simp; omega) h1 h2 h3) 200 (run (tgtA sp n) start) ds []
        (by simp) (run_lookAt hc _ start hs rfl) hkw ha (by simp)
      cases hRR : runM (fun ds n' => makeM sp f (way ++ [n]) ds n') sp (tgtA sp n) 200 (run (tgtA sp n) start) ds [] with
      | stop r => trivial
      | done c t ds' ls =>
        rw [hRR] at hR hF
        obtain ⟨i1, i2, i3, i4, i5, i6, i7⟩ := hR
        exact hF.1.put ⟨hn, .inr (.inr ⟨c2, c3, rfl, rfl, i3, i4, i5, i6, hF.2⟩)⟩
    · rw [if_pos (by simpa using c3)]
      exact ha.put ⟨hn, .inr (.inl ⟨c2, c3, rfl⟩)⟩
end Go.Am
namespace Go.Am
open Go
abbrev DSt := List (Int × Int) × List Int
def Und (F s : DSt) : Prop := (∃ t, F.1 = s.1 ++ t) ∧ ∃ t, F.2 = s.2 ++ t
theorem Und.refl (s : DSt) : Und s s := ⟨⟨[], by simp⟩, ⟨[], by simp⟩⟩
theorem Und.trans {F s r : DSt} (h : Und F s) (h' : Und s r) : Und F r := by
  obtain ⟨⟨t1, h1⟩, ⟨t2, h2⟩⟩ := h
  obtain ⟨⟨u1, g1⟩, ⟨u2, g2⟩⟩ := h'
  exact ⟨⟨u1 ++ t1, by rw [h1, g1, List.append_assoc]⟩, ⟨u2 ++ t2, by rw [h2, g2, List.append_assoc]⟩⟩
def lnkS (ds : List Deed) (f : Nat) (d : Int) (s : DSt) (l : Lnk) : DSt := if l.ask then dfs ds f l.at_.toNat (d + 1) s else s
theorem dfs_s (ds : List Deed) (f i : Nat) (d : Int) (st : DSt) (h : (i : Int) ∉ st.1.map (·.1)) :
    dfs ds (f + 1) i d st = (((dAt ds i).links.foldl (lnkS ds f d) (st.1 ++ [((i : Int), d)], st.2)).1, ((dAt ds i).links.foldl (lnkS ds f d) (st.1 ++ [((i : Int), d)], st.2)).2 ++ [(i : Int)]) := by
  rw [dfs, if_neg h]
  rfl
def OrdD (F : DSt) : Prop := ∀ j (hj : j < F.2.length), F.2[j] = (j : Int)
theorem Und.len {F s : DSt} (h : Und F s) : s.2.length ≤ F.2.length := by
  obtain ⟨_, t, ht⟩ := h
  rw [ht]
  simp
theorem Und.ord {F s : DSt} (h : Und F s) (hO : OrdD F) : OrdD s := by
  intro j hj
  obtain ⟨_, t, ht⟩ := h
  have := hO j (by rw [ht]; simp; omega)
  simp only [ht] at this
  rwa [List.getElem_append_left hj] at this
theorem OrdD.mem {s : DSt} (h : OrdD s) {i : Nat} : (i : Int) ∈ s.2 ↔ i < s.2.length := by
  constructor
  · intro hm
    obtain ⟨j, hj, he⟩ := List.mem_iff_getElem.1 hm
    rw [h j hj] at he
    omega
  · intro hi
    have := h i hi
    rw [← this]
    exact List.getElem_mem hi
theorem deed_form {ds : List Deed} {i : Nat} {d : Deed} (h : deedOk ds i d = true) : (d.kind = 1 ∧ d = ⟨d.name, 1, 0, d.text, [], []⟩) ∨ (d.kind = 2 ∧ d = ⟨d.name, 2, 0, [], [], []⟩) ∨
    (d.kind = 3 ∧ validP d.action = true ∧ d.links.length ≤ 200 ∧ ∀ l ∈ d.links, linkOk ds i l = true) := by
  obtain ⟨n, k, c, t, a, l⟩ := d
  simp only [deedOk, Bool.and_eq_true] at h
  obtain ⟨_, h⟩ := h
  split at h
  · rename_i hk
    simp only [plainD, Bool.and_eq_true, decide_eq_true_eq, List.length_eq_zero_iff] at h
    obtain ⟨⟨rfl, rfl⟩, rfl⟩ := h
    subst hk
    exact .inl ⟨rfl, rfl⟩
  split at h
  · rename_i hk
    simp only [plainD, Bool.and_eq_true, decide_eq_true_eq, List.length_eq_zero_iff] at h
    obtain ⟨⟨⟨rfl, rfl⟩, rfl⟩, rfl⟩ := h
    subst hk
    exact .inr (.inl ⟨rfl, rfl⟩)
  split at h
  · rename_i hk
    simp only [Bool.and_eq_true, decide_eq_true_eq, List.all_eq_true] at h
    exact .inr (.inr ⟨hk, h.1.1.2, h.1.2, h.2⟩)
  · cases h
theorem names_take {ds : List Deed} (hn : (namesD ds).Nodup) {i p : Nat} (hi : i < ds.length) : (dAt ds i).name ∈ namesD (ds.take p) ↔ i < p := by
  have hnl : (namesD ds).length = ds.length := by simp [namesD]
  constructor
  · intro hm
    obtain ⟨d, hd, he⟩ := List.mem_map.1 hm
    obtain ⟨j, hj, rfl⟩ := List.mem_take_iff_getElem.1 hd
    have hj' : j < ds.length := by omega
    have : j = i := (List.getElem_inj (h₀ := by omega) (h₁ := by omega) hn).1 (by simp only [namesD, List.getElem_map]; rw [he, dAt_lt hi])
    omega
  · intro hip
    exact List.mem_map.2 ⟨ds[i], List.mem_take_iff_getElem.2 ⟨i, by omega, rfl⟩, by rw [dAt_lt hi]⟩
end Go.Am
namespace Go.Am
open Go
theorem folO_congr {code : List Ins} {f g : Lnk → Rpl} : ∀ {ls : List Lnk} (o : Out), (∀ l ∈ ls, f l = g l) → folO code f o ls = folO code g o ls
  | [], o, _ => by simp [folO]
  | l :: ls, .go m, _ => rfl
  | l :: ls, .fin c t n, _ => rfl
  | l :: ls, .look a n m, h => by
    rw [folO, folO, h l (by simp)]
    split
    · exact folO_congr _ fun x hx => h x (by simp [hx])
    · rfl
theorem ansL_pre {ds ds' : List Deed} (hp : ds <+: ds') {l : Lnk} (h : l.ask = true → 0 ≤ l.at_ ∧ l.at_ < ds.length) : ansL ds' l = ansL ds l := by
  unfold ansL
  split
  · rename_i ha
    have := h ha
    rw [dAt_pre hp (by omega)]
  · rfl
def FolFit (ds : List Deed) (d : Deed) : Prop := d.kind = 3 → ∃ nn, folO d.action (ansL ds) (run d.action start) d.links = some (.fin d.code d.text nn)
def AllFol (ds : List Deed) : Prop := ∀ i (h : i < ds.length), FolFit ds ds[i]
theorem DeedFit.links {sp : Spc} {ds : List Deed} {i : Nat} {d : Deed} (h : DeedFit sp ds i d) : ∀ l ∈ d.links, LinkFit sp ds i l := by
  obtain ⟨_, ⟨_, _, h⟩ | ⟨_, _, h⟩ | h⟩ := h
  · rw [h]; simp
  · rw [h]; simp
  · exact h.2.2.2.2.2.2.2.2
theorem FolFit.pre {sp : Spc} {ds ds' : List Deed} {i : Nat} {d : Deed} (h : FolFit ds d) (hf : DeedFit sp ds i d) (hi : i ≤ ds.length) (hp : ds <+: ds') : FolFit ds' d := by
  intro hk
  obtain ⟨nn, hn⟩ := h hk
  refine ⟨nn, ?_⟩
  rw [← hn]
  refine folO_congr _ fun l hl => ansL_pre hp fun ha => ?_
  have := (hf.links l hl).2.1 ha
  omega
theorem AllFol.put {sp : Spc} {ds : List Deed} {d : Deed} (h : AllFol ds) (hf : AllFit sp ds) (hd : FolFit ds d) (hdf : DeedFit sp ds ds.length d) : AllFol (ds ++ [d]) := by
  intro i hi
  have hp : ds <+: ds ++ [d] := List.prefix_append _ _
  rcases Nat.lt_or_ge i ds.length with h1 | h1
  · rw [List.getElem_append_left h1]
    exact (h i h1).pre (hf i h1) (by omega) hp
  · obtain rfl : i = ds.length := by simp at hi; omega
    rw [List.getElem_append_right (by omega)]
    simp only [Nat.sub_self, List.getElem_cons_zero]
    exact hd.pre hdf (Nat.le_refl _) hp
structure MkH (sp : Spc) (way : List (List UInt8)) (mk : List Deed → List UInt8 → Mk) : Prop where
  ok : ∀ ds n, MkOk sp way ds → nameOk n = true → MkEnd sp way ds n 1 (mk ds n)
  fit : ∀ ds n, MkOk sp way ds → nameOk n = true → AllFit sp ds → MkFit sp (mk ds n)
theorem resume_ng {code : List Ins} {a : Bool} {n : List UInt8} {m : Mst} {k : Nat} (hl : LookAt k (.look a n m)) (r : Rpl) (m' : Mst) : resume code (.look a n m) r ≠ .go m' := by
  have h := hl a n m rfl
  simp only [resume]
  cases ha : answ a n m r with
  | go m2 =>
    simp only [runO]
    intro hc'
    have hg := answ_go ha
    have := h.1.steps
    exact run_ng code _ m2 m' rfl (by omega) hc'
  | fin c t n' => simp [runO]
  | look a2 n2 m2 => exact absurd ha answ_nl
theorem runM_new {sp : Spc} {way : List (List UInt8)} {code : List Ins} {mk : List Deed → List UInt8 → Mk} (hc : validP code = true) (hmk : MkH sp way mk) :
    ∀ (f : Nat) (o : Out) (ds : List Deed) (ls : List Lnk) (c : Int) (t : List UInt8) (ds' : List Deed) (ls' : List Lnk), ls.length + f = 200 → LookAt (ls.length + 1) o → FinOk o → (∀ m, o ≠ .go m) → MkOk sp way ds → AllFit sp ds →
      runM mk sp code f o ds ls = .done c t ds' ls' → ds <+: ds' ∧ AllFit sp ds' ∧ ∃ new, ls' = ls ++ new ∧ ∃ nn, folO code (ansL ds') o new = some (.fin c t nn)
  | f, .go m, ds, ls, c, t, ds', ls', _, _, _, hg, _, _, _ => absurd rfl (hg m)
  | f, .fin c t n, ds, ls, c', t', ds', ls', hf, _, _, _, hk, ha, hr => by
    have hr : Rn.done c t ds ls = .done c' t' ds' ls' := by
      rw [← hr]
      cases f <;> rfl
    injection hr with e1 e2 e3 e4
    subst e1 e2 e3 e4
    exact ⟨List.prefix_refl _, ha, [], by simp, n, by simp [folO]⟩
  | 0, .look a n m, ds, ls, c, t, ds', ls', hf, hl, _, _, _, _, _ => by
    have := hl a n m rfl
    omega
  | f + 1, .look a n m, ds, ls, c, t, ds', ls', hf, hl, _, _, hk, ha, hr => by
    have h := hl a n m rfl
    cases a with
    | true =>
      simp only [runM, if_true] at hr
      have hm := hmk.ok ds n hk h.2.2.2.2.1
      have hm2 := hmk.fit ds n hk h.2.2.2.2.1 ha
      cases hmm : mk ds n with
      | stop r => rw [hmm] at hr; cases hr
      | at_ i ds1 =>
        rw [hmm] at hm hm2 hr
        obtain ⟨m1, m2, m3, m4, m5⟩ := hm
        have hrr : replyOk (replyD (dAt ds1 i)) = true := by
          rw [dAt_lt m3]
          exact (m1.fit _ (List.getElem_mem m3)).1
        have h2 := resume_at hc hl hrr
        obtain ⟨g1, g2, new, g3, nn, g4⟩ := runM_new hc hmk f _ ds1 _ c t ds' ls' (by simp; omega) (by simpa using h2.1) h2.2 (resume_ng hl _) m1 hm2 hr
        refine ⟨m2.trans g1, g2, ⟨n, true, false, i⟩ :: new, by rw [g3]; simp, nn, ?_⟩
        rw [folO, if_pos ⟨rfl, rfl⟩]
        have : ansL ds' ⟨n, true, false, i⟩ = replyD (dAt ds1 i) := by
          unfold ansL
          rw [if_pos rfl]
          dsimp only
          rw [Int.toNat_natCast, dAt_pre g1 m3]
        rw [this]
        exact g4
    | false =>
      simp only [runM, Bool.false_eq_true, if_false] at hr
      have hrr : replyOk ⟨hasN sp n, 0, []⟩ = true := by simp [replyOk]
      have h2 := resume_at hc hl hrr
      obtain ⟨g1, g2, new, g3, nn, g4⟩ := runM_new hc hmk f _ ds _ c t ds' ls' (by simp; omega) (by simpa using h2.1) h2.2 (resume_ng hl _) hk ha hr
      refine ⟨g1, g2, ⟨n, false, hasN sp n, 0⟩ :: new, by rw [g3]; simp, nn, ?_⟩
      rw [folO, if_pos ⟨rfl, rfl⟩]
      exact g4
theorem runM_pres {Q : List Deed → Prop} {sp : Spc} {way : List (List UInt8)} {code : List Ins} {mk : List Deed → List UInt8 → Mk} (hc : validP code = true) (hmk : MkH sp way mk)
    (hq : ∀ ds n i ds1, MkOk sp way ds → nameOk n = true → AllFit sp ds → Q ds → mk ds n = .at_ i ds1 → Q ds1) :
    ∀ (f : Nat) (o : Out) (ds : List Deed) (ls : List Lnk) (c : Int) (t : List UInt8) (ds' : List Deed) (ls' : List Lnk), ls.length + f = 200 → LookAt (ls.length + 1) o → MkOk sp way ds → AllFit sp ds → Q ds →
      runM mk sp code f o ds ls = .done c t ds' ls' → Q ds'
  | f, .go m, ds, ls, c, t, ds', ls', _, _, _, _, hQ, hr => by
    have hr : Rn.done 0 [] ds ls = .done c t ds' ls' := by
      rw [← hr]
      cases f <;> rfl
    injection hr with e1 e2 e3 e4
    exact e3 ▸ hQ
  | f, .fin c t n, ds, ls, c', t', ds', ls', hf, _, hk, ha, hQ, hr => by
    have hr : Rn.done c t ds ls = .done c' t' ds' ls' := by
      rw [← hr]
      cases f <;> rfl
    injection hr with e1 e2 e3 e4
    exact e3 ▸ hQ
  | 0, .look a n m, ds, ls, c, t, ds', ls', hf, hl, _, _, _, _ => by
    have := hl a n m rfl
    omega
  | f + 1, .look a n m, ds, ls, c, t, ds', ls', hf, hl, hk, ha, hQ, hr => by
    have h := hl a n m rfl
    cases a with
    | true =>
      simp only [runM, if_true] at hr
      have hm := hmk.ok ds n hk h.2.2.2.2.1
      have hm2 := hmk.fit ds n hk h.2.2.2.2.1 ha
      cases hmm : mk ds n with
      | stop r => rw [hmm] at hr; cases hr
      | at_ i ds1 =>
        have hQ1 := hq ds n i ds1 hk h.2.2.2.2.1 ha hQ hmm
        rw [hmm] at hm hm2 hr
        obtain ⟨m1, m2, m3, m4, m5⟩ := hm
        have hrr : replyOk (replyD (dAt ds1 i)) = true := by
          rw [dAt_lt m3]
          exact (m1.fit _ (List.getElem_mem m3)).1
        have h2 := resume_at hc hl hrr
        exact runM_pres hc hmk hq f _ ds1 _ c t ds' ls' (by simp; omega) (by simpa using h2.1) m1 hm2 hQ1 hr
    | false =>
      simp only [runM, Bool.false_eq_true, if_false] at hr
      have hrr : replyOk ⟨hasN sp n, 0, []⟩ = true := by simp [replyOk]
      have h2 := resume_at hc hl hrr
      exact runM_pres hc hmk hq f _ ds _ c t ds' ls' (by simp; omega) (by simpa using h2.1) hk ha hQ hr
theorem MkOk.way {sp : Spc} {way : List (List UInt8)} {ds : List Deed} (hk : MkOk sp way ds) {n : List UInt8} (c1 : n ∉ namesD ds) (c3 : n ∈ tNames sp) (c4 : n ∉ way) : MkOk sp (way ++ [n]) ds := by
  refine ⟨hk.nd, List.nodup_append.2 ⟨hk.wnd, by simp, fun a ha b hb hab => ?_⟩, fun x hx => ?_, hk.fit⟩
  · simp only [List.mem_singleton] at hb
    exact c4 (by rw [← hb, ← hab]; exact ha)
  · rcases List.mem_append.1 hx with hx | hx
    · exact hk.wt x hx
    · rw [List.mem_singleton.1 hx]
      exact ⟨c3, c1⟩
theorem mkH {sp : Spc} (hsp : checkSpace sp = 0) {f : Nat} {way : List (List UInt8)} (hf : f + way.length = 61) (hw : way.length ≤ 60) : MkH sp way fun ds n' => makeM sp f way ds n' :=
  ⟨fun ds n' h1 h2 => makeM_ok hsp f way ds n' hf hw h1 h2, fun ds n' h1 h2 h3 => makeM_fit hsp f way ds n' hf hw h1 h2 h3⟩
theorem makeM_fol {sp : Spc} (hsp : checkSpace sp = 0) : ∀ (f : Nat) (way : List (List UInt8)) (ds : List Deed) (n : List UInt8) (i : Nat) (ds' : List Deed), f + way.length = 61 → way.length ≤ 60 → MkOk sp way ds → nameOk n = true → AllFit sp ds → AllFol ds →
    makeM sp f way ds n = .at_ i ds' → AllFol ds'
  | 0, way, ds, n, i, ds', hf, hw, _, _, _, _, _ => by omega
  | f + 1, way, ds, n, i, ds', hf, hw, hk, hn, ha, hfl, hm => by
    obtain ⟨q1, q2, q3, q4, q5, q6⟩ := checkSpace_ok hsp
    rw [makeM] at hm
    by_cases c1 : n ∈ namesD ds
    · rw [if_pos c1] at hm
      injection hm with e1 e2
      exact e2 ▸ hfl
    rw [if_neg c1] at hm
    by_cases c2 : n ∈ sNames sp
    · rw [if_pos c2] at hm
      injection hm with e1 e2
      subst e2
      obtain ⟨h, h1, h2⟩ := souT_at c2
      have c3 : n ∉ tNames sp := fun c3 => q6.1 _ (List.getElem_mem h) (by rw [h2]; exact c3)
      exact hfl.put ha (fun hk => by cases hk) ⟨hn, .inl ⟨c2, c3, rfl⟩⟩
    rw [if_neg c2] at hm
    by_cases c3 : n ∈ tNames sp
    · rw [if_neg (by simpa using c3)] at hm
      by_cases c4 : n ∈ way
      · rw [if_pos c4] at hm
        cases hm
      rw [if_neg c4] at hm
      by_cases c5 : way.length = 60
      · rw [if_pos c5] at hm
        cases hm
      rw [if_neg c5] at hm
      have hc := tgtA_ok hsp c3
      have hkw := hk.way c1 c3 c4
      have hs := start_ok
      have hmk : MkH sp (way ++ [n]) fun ds n' => makeM sp f (way ++ [n]) ds n' := mkH hsp (by simp; omega) (by simp; omega)
      cases hRR : runM (fun ds n' => makeM sp f (way ++ [n]) ds n') sp (tgtA sp n) 200 (run (tgtA sp n) start) ds [] with
      | stop r => rw [hRR] at hm; cases hm
      | done c t ds1 ls =>
        rw [hRR] at hm
        injection hm with e1 e2
        subst e2
        have hR := runM_ok hc hmk.ok 200 (run (tgtA sp n) start) ds [] (by simp) (run_lookAt hc _ start hs rfl) (run_finOk hc _ start hs rfl) (fun m => run_ng _ _ start m rfl hs.steps) hkw
        have hF := runM_fit hc hmk.ok hmk.fit 200 (run (tgtA sp n) start) ds [] (by simp) (run_lookAt hc _ start hs rfl) hkw ha (by simp)
        obtain ⟨g1, g2, new, g3, nn, g4⟩ := runM_new hc hmk 200 (run (tgtA sp n) start) ds [] c t ds1 ls (by simp) (run_lookAt hc _ start hs rfl) (run_finOk hc _ start hs rfl) (fun m => run_ng _ _ start m rfl hs.steps) hkw ha hRR
        have hfl1 := runM_pres (Q := AllFol) hc hmk (fun ds n' i ds1 h1 h2 h3 h4 h5 => makeM_fol hsp f (way ++ [n]) ds n' i ds1 (by simp; omega) (by simp; omega) h1 h2 h3 h4 h5) 200 (run (tgtA sp n) start) ds [] c t ds1 ls (by simp) (run_lookAt hc _ start hs rfl) hkw ha hfl hRR
        rw [hRR] at hR hF
        obtain ⟨i1, i2, i3, i4, i5, i6, i7⟩ := hR
        simp only [List.nil_append] at g3
        subst g3
        exact hfl1.put g2 (fun _ => ⟨nn, g4⟩) ⟨hn, .inr (.inr ⟨c2, c3, rfl, rfl, i3, i4, i5, i6, hF.2⟩)⟩
    · rw [if_pos (by simpa using c3)] at hm
      injection hm with e1 e2
      subst e2
      exact hfl.put ha (fun hk => by cases hk) ⟨hn, .inr (.inl ⟨c2, c3, rfl⟩)⟩
theorem OrdD.mem' {s : DSt} (h : OrdD s) {v : Int} {n : Nat} (hv : 0 ≤ v ∧ v < n) (hn : n ≤ s.2.length) : v ∈ s.2 := by
  have := (h.mem (i := v.toNat)).2 (by omega)
  rwa [Int.toNat_of_nonneg hv.1] at this
theorem OrdD.mem'' {s : DSt} (h : OrdD s) {v : Int} (hv : v ∈ s.2) : 0 ≤ v ∧ v < s.2.length := by
  obtain ⟨j, hj, rfl⟩ := List.mem_iff_getElem.1 hv
  rw [h j hj]
  omega
structure Vis (D : List Deed) (n : Nat) (st st' : DSt) : Prop where
  ord : OrdD st'
  len : st'.2.length = n
  sub : ∀ v ∈ st'.2, v ∈ st'.1.map (·.1)
  met : ∀ v ∈ st'.1.map (·.1), v ∈ st'.2 ∨ v ∈ st.1.map (·.1)
  dep : ∀ p ∈ st'.1, p ∈ st.1 ∨ ((dAt D p.1.toNat).kind = 3 → p.2 < 60)
  le : st.2.length ≤ st'.2.length
  pre : ∀ v ∈ st.1.map (·.1), v ∈ st'.1.map (·.1)
def Sim2 (D : List Deed) (way : List (List UInt8)) (ds : List Deed) (i : Nat) (ds1 : List Deed) : Prop :=
  ds1 <+: D → ∀ (F : Nat) (st : DSt), i < F → OrdD st → st.2.length = ds.length → (∀ v ∈ st.2, v ∈ st.1.map (·.1)) → (∀ v ∈ st.1.map (·.1), v ∈ st.2 ∨ (ds1.length : Int) ≤ v) → Vis D ds1.length st (dfs D F i way.length st)
theorem runM_vis {D : List Deed} {sp : Spc} {way : List (List UInt8)} {code : List Ins} {mk : List Deed → List UInt8 → Mk} (hc : validP code = true) (hmk : MkH sp way mk)
    (hs : ∀ ds n i ds1, MkOk sp way ds → nameOk n = true → AllFit sp ds → mk ds n = .at_ i ds1 → Sim2 D way ds i ds1) (d : Int) (hd : d + 1 = way.length) (F : Nat) :
    ∀ (f : Nat) (o : Out) (ds : List Deed) (ls : List Lnk) (c : Int) (t : List UInt8) (ds' : List Deed) (ls' : List Lnk), ls.length + f = 200 → LookAt (ls.length + 1) o → FinOk o → (∀ m, o ≠ .go m) → MkOk sp way ds → AllFit sp ds →
      runM mk sp code f o ds ls = .done c t ds' ls' → ds' <+: D → ds'.length ≤ F → ∃ new, ls' = ls ++ new ∧ ∀ st : DSt, OrdD st → st.2.length = ds.length → (∀ v ∈ st.2, v ∈ st.1.map (·.1)) → (∀ v ∈ st.1.map (·.1), v ∈ st.2 ∨ (ds'.length : Int) ≤ v) →
        Vis D ds'.length st (new.foldl (lnkS D F d) st)
  | f, .go m, ds, ls, c, t, ds', ls', _, _, _, hg, _, _, _, _, _ => absurd rfl (hg m)
  | f, .fin c t n, ds, ls, c', t', ds', ls', hf, _, _, _, hk, ha, hr, hp, hF => by
    have hr : Rn.done c t ds ls = .done c' t' ds' ls' := by
      rw [← hr]
      cases f <;> rfl
    injection hr with e1 e2 e3 e4
    subst e1 e2 e3 e4
    exact ⟨[], by simp, fun st s1 s2 s3 s4 => ⟨s1, s2, s3, fun v hv => .inr hv, fun p hp => .inl hp, Nat.le_refl _, fun v hv => hv⟩⟩
  | 0, .look a n m, ds, ls, c, t, ds', ls', hf, hl, _, _, _, _, _, _, _ => by
    have := hl a n m rfl
    omega
  | f + 1, .look a n m, ds, ls, c, t, ds', ls', hf, hl, _, _, hk, ha, hr, hp, hF => by
    have h := hl a n m rfl
    cases a with
    | true =>
      simp only [runM, if_true] at hr
      have hm := hmk.ok ds n hk h.2.2.2.2.1
      have hm2 := hmk.fit ds n hk h.2.2.2.2.1 ha
      cases hmm : mk ds n with
      | stop r => rw [hmm] at hr; cases hr
      | at_ i ds1 =>
        have hsim := hs ds n i ds1 hk h.2.2.2.2.1 ha hmm
        rw [hmm] at hm hm2 hr
        obtain ⟨m1, m2, m3, m4, m5⟩ := hm
        have hrr : replyOk (replyD (dAt ds1 i)) = true := by
          rw [dAt_lt m3]
          exact (m1.fit _ (List.getElem_mem m3)).1
        have h2 := resume_at hc hl hrr
        obtain ⟨g1, g2, -⟩ := runM_new hc hmk f _ ds1 _ c t ds' ls' (by simp; omega) (by simpa using h2.1) h2.2 (resume_ng hl _) m1 hm2 hr
        obtain ⟨new, g3, g4⟩ := runM_vis hc hmk hs d hd F f _ ds1 _ c t ds' ls' (by simp; omega) (by simpa using h2.1) h2.2 (resume_ng hl _) m1 hm2 hr hp hF
        have hle := g1.length_le
        refine ⟨⟨n, true, false, i⟩ :: new, by rw [g3]; simp, fun st s1 s2 s3 s4 => ?_⟩
        rw [List.foldl_cons]
        have hst : lnkS D F d st ⟨n, true, false, i⟩ = dfs D F i way.length st := by
          unfold lnkS
          rw [if_pos rfl, hd]
          rfl
        rw [hst]
        have v1 := hsim (g1.trans hp) F st (by omega) s1 s2 s3 (fun v hv => by
          rcases s4 v hv with h | h
          · exact .inl h
          · exact .inr (by omega))
        have v2 := g4 _ v1.ord v1.len v1.sub (fun v hv => by
          rcases v1.met v hv with h | h
          · exact .inl h
          · rcases s4 v h with h' | h'
            · exact .inl (v1.ord.mem' (s1.mem'' h') v1.le)
            · exact .inr h')
        refine ⟨v2.ord, v2.len, v2.sub, fun v hv => ?_, fun p hp => ?_, Nat.le_trans v1.le v2.le, fun v hv => v2.pre v (v1.pre v hv)⟩
        · rcases v2.met v hv with h | h
          · exact .inl h
          · rcases v1.met v h with h' | h'
            · exact .inl (v2.ord.mem' (v1.ord.mem'' h') v2.le)
            · exact .inr h'
        · rcases v2.dep p hp with h | h
          · exact v1.dep p h
          · exact .inr h
    | false =>
      simp only [runM, Bool.false_eq_true, if_false] at hr
      have hrr : replyOk ⟨hasN sp n, 0, []⟩ = true := by simp [replyOk]
      have h2 := resume_at hc hl hrr
      obtain ⟨new, g3, g4⟩ := runM_vis hc hmk hs d hd F f _ ds _ c t ds' ls' (by simp; omega) (by simpa using h2.1) h2.2 (resume_ng hl _) hk ha hr hp hF
      refine ⟨⟨n, false, hasN sp n, 0⟩ :: new, by rw [g3]; simp, fun st s1 s2 s3 s4 => ?_⟩
      rw [List.foldl_cons]
      have hst : lnkS D F d st ⟨n, false, hasN sp n, 0⟩ = st := by
        unfold lnkS
        rw [if_neg (by simp)]
      rw [hst]
      exact g4 st s1 s2 s3 s4
theorem makeM_vis {D : List Deed} (hnD : (namesD D).Nodup) {sp : Spc} (hsp : checkSpace sp = 0) : ∀ (f : Nat) (way : List (List UInt8)) (ds : List Deed) (n : List UInt8) (i : Nat) (ds1 : List Deed), f + way.length = 61 → way.length ≤ 60 → MkOk sp way ds → nameOk n = true → AllFit sp ds →
    makeM sp f way ds n = .at_ i ds1 → Sim2 D way ds i ds1
  | 0, way, ds, n, i, ds', hf, hw, _, _, _, _ => by omega
  | f + 1, way, ds, n, i, ds1, hf, hw, hk, hn, ha, hm => by
    obtain ⟨q1, q2, q3, q4, q5, q6⟩ := checkSpace_ok hsp
    rw [makeM] at hm
    intro hp F st hiF s1 s2 s3 s4
    obtain ⟨G, rfl⟩ : ∃ G, F = G + 1 := ⟨F - 1, by omega⟩
    by_cases c1 : n ∈ namesD ds
    · rw [if_pos c1] at hm
      injection hm with e1 e2
      subst e2
      obtain ⟨hlt, _⟩ := idxOf_map _ c1
      have hil : i < ds.length := by rw [← e1]; exact hlt
      have hv : (i : Int) ∈ st.1.map (·.1) := s3 _ (s1.mem.2 (by omega))
      rw [show dfs D (G + 1) i way.length st = st by rw [dfs, if_pos hv]]
      exact ⟨s1, s2, s3, fun v hv => .inr hv, fun p hp => .inl hp, Nat.le_refl _, fun v hv => hv⟩
    rw [if_neg c1] at hm
    have hnv : i = ds1.length - 1 → ds.length ≤ i → i < ds1.length → (i : Int) ∉ st.1.map (·.1) := fun h1 h2 h3 hv => by
      rcases s4 _ hv with h | h
      · have := s1.mem.1 h
        omega
      · omega
    have leaf : ∀ d : Deed, d.links = [] → d.kind ≠ 3 → Mk.at_ ds.length (ds ++ [d]) = .at_ i ds1 → Vis D ds1.length st (dfs D (G + 1) i way.length st) := by
      intro d hl hk3 he
      injection he with e1 e2
      subst e1 e2
      have hD : dAt D ds.length = d := by rw [dAt_pre hp (by simp), dAt_app]
      rw [dfs_s D G ds.length _ st (hnv (by simp) (Nat.le_refl _) (by simp)), hD, hl]
      simp only [List.foldl_nil]
      refine ⟨fun j hj => ?_, by simp [s2], fun v hv => ?_, fun v hv => ?_, fun p hp => ?_, by simp, fun v hv => by rw [List.map_append, List.mem_append]; exact .inl hv⟩
      · dsimp only at hj ⊢
        simp only [List.length_append, List.length_singleton] at hj
        rcases Nat.lt_or_ge j st.2.length with h | h
        · rw [List.getElem_append_left h]; exact s1 j h
        · obtain rfl : j = st.2.length := by omega
          simp [s2]
      · dsimp only at hv ⊢
        rw [List.map_append, List.mem_append]
        rcases List.mem_append.1 hv with h | h
        · exact .inl (s3 v h)
        · simp at h
          exact .inr (by simp [h])
      · dsimp only at hv ⊢
        rw [List.map_append, List.mem_append] at hv
        rcases hv with h | h
        · exact .inr h
        · simp at h
          exact .inl (by simp [h])
      · dsimp only at hp
        rcases List.mem_append.1 hp with h | h
        · exact .inl h
        · rw [List.mem_singleton.1 h]
          refine .inr fun hk => ?_
          dsimp only at hk
          rw [Int.toNat_natCast, hD] at hk
          exact absurd hk hk3
    by_cases c2 : n ∈ sNames sp
    · rw [if_pos c2] at hm
      exact leaf ⟨n, 1, 0, souT sp n, [], []⟩ rfl (by show (1 : Int) ≠ 3; decide) hm
    rw [if_neg c2] at hm
    by_cases c3 : n ∈ tNames sp
    · rw [if_neg (by simpa using c3)] at hm
      by_cases c4 : n ∈ way
      · rw [if_pos c4] at hm
        cases hm
      rw [if_neg c4] at hm
      by_cases c5 : way.length = 60
      · rw [if_pos c5] at hm
        cases hm
      rw [if_neg c5] at hm
      have hc := tgtA_ok hsp c3
      have hkw := hk.way c1 c3 c4
      have hs := start_ok
      have hmk : MkH sp (way ++ [n]) fun ds n' => makeM sp f (way ++ [n]) ds n' := mkH hsp (by simp; omega) (by simp; omega)
      cases hRR : runM (fun ds n' => makeM sp f (way ++ [n]) ds n') sp (tgtA sp n) 200 (run (tgtA sp n) start) ds [] with
      | stop r => rw [hRR] at hm; cases hm
      | done c t ds2 ls =>
        rw [hRR] at hm
        injection hm with e1 e2
        subst e1 e2
        have hp2 : ds2 <+: D := (List.prefix_append _ _).trans hp
        obtain ⟨g1, g2, -⟩ := runM_new hc hmk 200 (run (tgtA sp n) start) ds [] c t ds2 ls (by simp) (run_lookAt hc _ start hs rfl) (run_finOk hc _ start hs rfl) (fun m => run_ng _ _ start m rfl hs.steps) hkw ha hRR
        have hle := g1.length_le
        obtain ⟨new, g3, g4⟩ := runM_vis (D := D) hc hmk (fun ds n' i ds1 h1 h2 h3 h4 => makeM_vis hnD hsp f (way ++ [n]) ds n' i ds1 (by simp; omega) (by simp; omega) h1 h2 h3 h4) way.length (by simp) G
          200 (run (tgtA sp n) start) ds [] c t ds2 ls (by simp) (run_lookAt hc _ start hs rfl) (run_finOk hc _ start hs rfl) (fun m => run_ng _ _ start m rfl hs.steps) hkw ha hRR hp2 (by omega)
        simp only [List.nil_append] at g3
        subst g3
        have hD : dAt D ds2.length = ⟨n, 3, c, t, tgtA sp n, ls⟩ := by rw [dAt_pre hp (by simp), dAt_app]
        rw [dfs_s D G ds2.length _ st (hnv (by simp) hle (by simp)), hD]
        dsimp only
        have v := g4 (st.1 ++ [((ds2.length : Int), (way.length : Int))], st.2) s1 s2 (fun v hv => by
          rw [List.map_append, List.mem_append]
          exact .inl (s3 v hv)) (fun v hv => by
          rw [List.map_append, List.mem_append] at hv
          rcases hv with h | h
          · rcases s4 v h with h' | h'
            · exact .inl h'
            · refine .inr ?_
              simp at h'
              omega
          · simp at h
            exact .inr (by omega))
        generalize (ls.foldl (lnkS D G way.length) (st.1 ++ [((ds2.length : Int), (way.length : Int))], st.2)) = r at v
        refine ⟨fun j hj => ?_, by simp [v.len], fun x hx => ?_, fun x hx => ?_, fun p hp => ?_, by have := v.le; simp at this ⊢; omega, fun x hx => v.pre x (by rw [List.map_append, List.mem_append]; exact .inl hx)⟩
        · dsimp only at hj ⊢
          simp only [List.length_append, List.length_singleton] at hj
          rcases Nat.lt_or_ge j r.2.length with h | h
          · rw [List.getElem_append_left h]; exact v.ord j h
          · obtain rfl : j = r.2.length := by omega
            simp [v.len]
        · dsimp only at hx ⊢
          rcases List.mem_append.1 hx with h | h
          · exact v.sub x h
          · simp at h
            subst h
            exact v.pre _ (by simp)
        · dsimp only at hx ⊢
          rcases v.met x hx with h | h
          · exact .inl (List.mem_append_left _ h)
          · rw [List.map_append, List.mem_append] at h
            rcases h with h | h
            · exact .inr h
            · simp at h
              exact .inl (by simp [h])
        · dsimp only at hp
          rcases v.dep p hp with h | h
          · rcases List.mem_append.1 h with h | h
            · exact .inl h
            · rw [List.mem_singleton.1 h]
              exact .inr fun _ => by dsimp only; omega
          · exact .inr h
    · rw [if_pos (by simpa using c3)] at hm
      exact leaf ⟨n, 2, 0, [], [], []⟩ rfl (by show (2 : Int) ≠ 3; decide) hm
theorem MkOk.nil (sp : Spc) : MkOk sp [] [] := ⟨by simp [namesD], List.nodup_nil, by simp, by simp⟩
theorem DeedFit.ok {sp : Spc} (hsp : checkSpace sp = 0) {ds : List Deed} {i : Nat} {d : Deed} (h : DeedFit sp ds i d) : deedOk ds i d = true := by
  obtain ⟨h0, ⟨h1, h1', h2⟩ | ⟨h1, h2, h3⟩ | ⟨h1, h2, h3, h4, h5, h6, h7, h8, h9⟩⟩ := h
  · rw [h2]
    simp [deedOk, h0, plainD, souT_ok hsp h1]
  · rw [h3]
    simp [deedOk, h0, plainD]
  · simp only [deedOk, h0, h3, Bool.true_and, Bool.and_eq_true, decide_eq_true_eq, show ¬ ((3 : Int) = 1) by decide, show ¬ ((3 : Int) = 2) by decide, if_false, if_true, List.all_eq_true]
    refine ⟨h7, ⟨⟨⟨h5, h6⟩, by rw [h4]; exact tgtA_ok hsp h2⟩, h8⟩, fun l hl => ?_⟩
    obtain ⟨k1, k2, k3⟩ := h9 l hl
    cases ha : l.ask with
    | true =>
      obtain ⟨k4, k5, k6, k7⟩ := k2 ha
      simp [linkOk, k1, ha, k4, k5, k6, k7]
    | false =>
      obtain ⟨k4, k5⟩ := k3 ha
      simp [linkOk, k1, ha, k4]
theorem accOk_of {ds : List Deed} (h0 : 0 < ds.length ∧ ds.length ≤ 400) (h1 : ∀ i, (hi : i < ds.length) → deedOk ds i ds[i] = true) (h2 : (namesD ds).Nodup) (h3 : OrdD (listing ds (ds.length - 1)))
    (h4 : ∀ p ∈ (listing ds (ds.length - 1)).1, (dAt ds p.1.toNat).kind = 3 → p.2 < 60) : accOk ds = true := by
  unfold accOk
  rw [checkAcc_5 (by omega) h1 (fun j hj hm => ?_) h3, firstI_none fun j hj => ?_]
  · rfl
  · simp only [tooDeep, Bool.and_eq_false_iff, decide_eq_false_iff_not, not_exists, not_and]
    rcases Decidable.em ((dAt ds j).kind = 3) with hk | hk
    · refine .inr fun p hp he => ?_
      have := h4 p hp (by rw [he, Int.toNat_natCast]; exact hk)
      omega
    · exact .inl hk
  · have := (names_take (p := j) h2 hj).1 (by rw [dAt_lt hj]; exact hm)
    omega
theorem made {sp : Spc} (hsp : checkSpace sp = 0) {n : List UInt8} (hn : nameOk n = true) {i : Nat} {ds : List Deed} (hm : makeM sp 61 [] [] n = .at_ i ds) :
    i + 1 = ds.length ∧ (dAt ds i).name = n ∧ AllFit sp ds ∧ AllFol ds ∧ (namesD ds).Nodup ∧ (∀ j, j < ds.length → auditD ds sp (dAt ds j) = 0) ∧ (ds.length ≤ 400 → accOk ds = true) := by
  have hk0 := MkOk.nil sp
  have hE := makeM_ok hsp 61 [] [] n rfl (by simp) hk0 hn
  have hF := makeM_fit hsp 61 [] [] n rfl (by simp) hk0 hn AllFit.nil
  have hL := makeM_fol hsp 61 [] [] n i ds rfl (by simp) hk0 hn AllFit.nil (fun i hi => by simp at hi) hm
  rw [hm] at hE hF
  obtain ⟨e1, e2, e3, e4, e5⟩ := hE
  have hfit : AllFit sp ds := hF
  have hV := makeM_vis (D := ds) e1.nd hsp 61 [] [] n i ds rfl (by simp) hk0 hn AllFit.nil hm (List.prefix_refl _) ds.length ([], []) e3 (fun j hj => by simp at hj) rfl (by simp) (by simp)
  have hlast : i + 1 = ds.length := by
    rw [makeM] at hm
    rw [if_neg (by simp [namesD])] at hm
    split at hm
    · injection hm with h1 h2; subst h1 h2; simp
    split at hm
    · injection hm with h1 h2; subst h1 h2; simp
    split at hm
    · cases hm
    split at hm
    · cases hm
    split at hm
    · cases hm
    · injection hm with h1 h2; subst h1 h2; simp
  refine ⟨hlast, e4, hfit, hL, e1.nd, fun j hj => ?_, fun h4 => ?_⟩
  · rw [dAt_lt hj]
    have hf := hfit j hj
    have hfd : fitsD sp ds[j] = true := by
      obtain ⟨_, ⟨h1, h1', h2⟩ | ⟨h1, h2, h3⟩ | ⟨h1, h2, h3, h4, _⟩⟩ := hf
      · rw [h2]
        simp [fitsD, h1]
      · rw [h3]
        simp [fitsD, hasN, h1, h2]
      · simp [fitsD, h3, h2, h4]
    have hlk : lookAll sp ds[j].links = true := List.all_eq_true.2 fun l hl => by
      have := (hf.links l hl).2.2
      unfold lookOkD
      cases ha : l.ask with
      | true => rfl
      | false => simp [(this ha).2]
    unfold auditD
    rw [hfd, hlk]
    simp only [Bool.true_eq_false, if_false]
    unfold folD
    split
    · rename_i hk3
      obtain ⟨nn, hnn⟩ := hL j hj hk3
      rw [hnn]
      simp [folE]
    · rfl
  · refine accOk_of ⟨by omega, h4⟩ (fun j hj => (hfit j hj).ok hsp) e1.nd ?_ fun p hp hk => ?_
    · have := hV.ord
      unfold listing
      rw [show ds.length - 1 = i by omega]
      exact this
    · rcases hV.dep p (by unfold listing at hp; rw [show ds.length - 1 = i by omega] at hp; exact hp) with h | h
      · cases h
      · exact h hk
end Go.Am

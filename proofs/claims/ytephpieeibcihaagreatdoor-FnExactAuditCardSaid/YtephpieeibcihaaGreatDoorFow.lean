import Derived.Test.YtephpieeibcihaaGreatDoorByt
import Derived.Test.YtephpieeibcihaaGreatDoorAcc
import Derived.Test.YtephpieeibcihaaGreatDoorMch
import Derived.Test.YtephpieeibcihaaGreatDoorNxt
import Derived.Test.YtephpieeibcihaaGreatDoorSpX
import Derived.Test.YtephpieeibcihaaGreatDoorAccN
/- Writing accounts: what is written. No condition. -/
set_option linter.unusedSimpArgs false
set_option linter.unusedVariables false
namespace Go.Am
open Go
theorem accOk_len' {ds : List Deed} (h : accOk ds = true) : ds.length ≤ 400 ∧ 1 ≤ ds.length := by
  simp only [accOk, decide_eq_true_eq] at h
  unfold checkAcc at h
  split at h
  · cases h
  · omega
theorem accOk_deeds' {ds : List Deed} (h : accOk ds = true) : ∀ i, i < ds.length → deedOk ds i (dAt ds i) = true := by
  simp only [accOk, decide_eq_true_eq] at h
  unfold checkAcc at h
  split at h
  · cases h
  · split at h
    · cases h
    · rename_i hn
      intro i hi
      have := firstI_no hn i hi
      simpa using this
def linkL (l : Lnk) : List UInt8 := if l.ask then ([97, 115, 107, 32] ++ l.name ++ [32]) ++ decN l.at_.toNat else ([104, 97, 115, 32] ++ l.name ++ [32]) ++ flagT l.has
def headL (d : Deed) : List UInt8 := (([116, 97, 114, 103, 101, 116, 32] ++ d.name ++ [32]) ++ decN d.code.toNat ++ [32]) ++ quoteL d.text
def doL (x : Ins) : List UInt8 := [100, 111, 32] ++ lineL x
def endL : List UInt8 := [101, 110, 100]
def deedLines (d : Deed) : List (List UInt8) :=
  if d.kind = 1 then [([115, 111, 117, 114, 99, 101, 32] ++ d.name ++ [32]) ++ quoteL d.text]
  else if d.kind = 2 then [[110, 111, 110, 101, 32] ++ d.name]
  else headL d :: (d.action.map doL ++ (d.links.map linkL ++ [endL]))
def joinN (ls : List (List UInt8)) : List UInt8 := ls.flatMap fun l => l ++ [10]
def accHead (n : Nat) : List UInt8 := [97, 99, 99, 111, 117, 110, 116, 32] ++ decN n ++ [10]
def formB (ds : List Deed) : List UInt8 := accHead ds.length ++ joinN (ds.flatMap deedLines)
def formAcc (ds : List Deed) : List UInt8 := if accOk ds then (if 300000 < (formB ds).length then [] else formB ds) else []
theorem joinN_app (a b : List (List UInt8)) : joinN (a ++ b) = joinN a ++ joinN b := by simp [joinN]
theorem joinN_one (a : List UInt8) : joinN [a] = a ++ [10] := by simp [joinN]
theorem joinN_cons (a : List UInt8) (l : List (List UInt8)) : joinN (a :: l) = a ++ [10] ++ joinN l := by simp [joinN]
theorem joinN_len {n : Nat} : ∀ {l : List (List UInt8)}, (∀ x ∈ l, x.length ≤ n) → (joinN l).length ≤ (n + 1) * l.length
  | [], _ => by simp [joinN]
  | x :: l, h => by
    have h1 := h x (by simp)
    have h2 := joinN_len (n := n) (l := l) fun y hy => h y (by simp [hy])
    rw [joinN_cons]
    simp only [List.length_append, List.length_cons, List.length_nil]
    rw [Nat.mul_add]
    omega
theorem deed_parts {ds : List Deed} {i : Nat} {d : Deed} (h : deedOk ds i d = true) : d.name.length ≤ 60 ∧ d.text.length ≤ 2000 ∧ (d.kind = 1 ∨ d.kind = 2 ∨ (d.kind = 3 ∧ 0 ≤ d.code ∧ d.code ≤ 5 ∧ validP d.action = true ∧ d.links.length ≤ 200 ∧ ∀ l ∈ d.links, l.name.length ≤ 60 ∧ (l.ask = true → 0 ≤ l.at_ ∧ l.at_ < i))) := by
  simp only [deedOk, Bool.and_eq_true, decide_eq_true_eq] at h
  obtain ⟨⟨h1, h2⟩, h3⟩ := h
  refine ⟨?_, h2, ?_⟩
  · simp only [nameOk, Bool.and_eq_true, decide_eq_true_eq] at h1
    exact h1.1.2
  by_cases k1 : d.kind = 1
  · exact .inl k1
  rw [if_neg k1] at h3
  by_cases k2 : d.kind = 2
  · exact .inr (.inl k2)
  rw [if_neg k2] at h3
  by_cases k3 : d.kind = 3
  · rw [if_pos k3] at h3
    simp only [Bool.and_eq_true, decide_eq_true_eq] at h3
    obtain ⟨⟨⟨⟨a1, a2⟩, a3⟩, a4⟩, a5⟩ := h3
    refine .inr (.inr ⟨k3, a1, a2, a3, a4, fun l hl => ?_⟩)
    have hl' := List.all_eq_true.1 a5 l hl
    simp only [linkOk, Bool.and_eq_true] at hl'
    obtain ⟨b1, b2⟩ := hl'
    refine ⟨?_, fun ha => ?_⟩
    · simp only [nameOk, Bool.and_eq_true, decide_eq_true_eq] at b1
      exact b1.1.2
    · rw [ha] at b2
      simp at b2
      exact ⟨b2.1.1.2, b2.1.2⟩
  · rw [if_neg k3] at h3
    cases h3
theorem linkL_len {l : Lnk} {i : Nat} (h : l.name.length ≤ 60) (hi : i ≤ 400) (ha : l.ask = true → 0 ≤ l.at_ ∧ l.at_ < i) : (linkL l).length ≤ 470 := by
  unfold linkL
  split
  · rename_i h1
    have := ha h1
    have := decN_len l.at_.toNat
    simp
    omega
  · have : (flagT l.has).length ≤ 1 := by unfold flagT; split <;> simp
    simp
    omega
theorem doL_len {x : Ins} (h : x.valid = true) : (doL x).length ≤ 6013 := by
  have := lineL_len h
  simp [doL]
  omega
theorem headL_len {d : Deed} (h1 : d.name.length ≤ 60) (h2 : d.text.length ≤ 2000) (h3 : d.code ≤ 5) : (headL d).length ≤ 6100 := by
  have := quoteL_len d.text
  have := decN_len d.code.toNat
  simp [headL]
  omega
theorem deedLines_len {ds : List Deed} {i : Nat} {d : Deed} (hi : i ≤ 400) (h : deedOk ds i d = true) : (joinN (deedLines d)).length ≤ 1400000 := by
  obtain ⟨h1, h2, h3⟩ := deed_parts h
  have hq := quoteL_len d.text
  unfold deedLines
  split
  · rw [joinN_one]; simp; omega
  · split
    · rw [joinN_one]; simp; omega
    · rename_i k1 k2
      rcases h3 with h3 | h3 | ⟨h3, h4, h5, h6, h7, h8⟩
      · exact absurd h3 k1
      · exact absurd h3 k2
      · have hv := validP_len h6
        have l1 := headL_len h1 h2 h5
        have l2 := joinN_len (n := 6013) (l := d.action.map doL) fun x hx => by
          obtain ⟨y, hy, rfl⟩ := List.mem_map.1 hx
          exact doL_len (validP_all h6 hy)
        have l3 := joinN_len (n := 470) (l := d.links.map linkL) fun x hx => by
          obtain ⟨y, hy, rfl⟩ := List.mem_map.1 hx
          exact linkL_len (h8 y hy).1 hi (h8 y hy).2
        rw [joinN_cons, joinN_app, joinN_app, joinN_one]
        simp only [List.length_append, List.length_map, List.length_cons, List.length_nil, endL] at l2 l3 ⊢
        omega
theorem formB_s {ds : List Deed} {i : Nat} (h : i < ds.length) : joinN ((ds.take (i + 1)).flatMap deedLines) = joinN ((ds.take i).flatMap deedLines) ++ joinN (deedLines ds[i]) := by
  rw [List.take_succ_eq_append_getElem h, List.flatMap_append, joinN_app]
  simp
theorem form_len {ds : List Deed} (h4 : ds.length ≤ 400) (h : ∀ i, (hi : i < ds.length) → deedOk ds i ds[i] = true) : ∀ i, i ≤ ds.length → (joinN ((ds.take i).flatMap deedLines)).length ≤ 1400000 * i
  | 0, _ => by simp [joinN]
  | i + 1, hi => by
    have h1 := form_len h4 h i (by omega)
    have h2 := deedLines_len (i := i) (by omega) (h i (by omega))
    rw [formB_s (by omega)]
    simp only [List.length_append]
    omega
theorem form_mono {ds : List Deed} (i : Nat) (h : i ≤ ds.length) : (accHead ds.length).length + (joinN ((ds.take i).flatMap deedLines)).length ≤ (formB ds).length := by
  have e : formB ds = accHead ds.length ++ (joinN ((ds.take i).flatMap deedLines) ++ joinN ((ds.drop i).flatMap deedLines)) := by
    unfold formB
    rw [← joinN_app, ← List.flatMap_append, List.take_append_drop]
  rw [e]
  simp only [List.length_append]
  omega
theorem accHead_len {n : Nat} (h : n ≤ 400) : (accHead n).length ≤ 500 := by
  have := decN_len n
  simp [accHead]
  omega
end Go.Am

/- Following an account: what is computed. No condition. -/
set_option linter.unusedSimpArgs false
set_option linter.unusedVariables false
namespace Go.Am
open Go
/-- What a deed answers to who asks for it. -/
def replyD (d : Deed) : Rpl := ⟨decide (d.kind ≠ 2), d.code, d.text⟩
/-- What a link answers. -/
def ansL (ds : List Deed) (l : Lnk) : Rpl := if l.ask then replyD (dAt ds l.at_.toNat) else ⟨l.has, 0, []⟩
/-- A run, its looks held against links. -/
def folO (code : List Ins) (f : Lnk → Rpl) : Out → List Lnk → Option Out
  | o, [] => some o
  | .look a n m, l :: ls => if n = l.name ∧ a = l.ask then folO code f (resume code (.look a n m) (f l)) ls else none
  | .fin _ _ _, _ :: _ => none
  | .go _, _ :: _ => none
def folE (d : Deed) : Option Out → Int
  | some (.fin c t _) => if c ≠ d.code ∨ t ≠ d.text then 5 else 0
  | _ => 4
/-- 0, 4 or 5. -/
def folD (ds : List Deed) (d : Deed) : Int :=
  if d.kind = 3 then folE d (folO d.action (ansL ds) (run d.action start) d.links) else 0
def folA (ds : List Deed) : Int × Int := if accOk ds then (match firstI ds.length fun i => !decide (folD ds (dAt ds i) = 0) with
  | some i => (folD ds (dAt ds i), i)
  | none => (0, 0)) else (1, 0)
theorem nextO_app (code : List Ins) (l : List Rpl) (r : Rpl) : nextO code (l ++ [r]) = resume code (nextO code l) r := by
  unfold nextO
  rw [List.foldl_append]
  rfl
/-- One look further. -/
theorem folO_s {code : List Ins} {f : Lnk → Rpl} {ls : List Lnk} {k : Nat} (h : k < ls.length) {a : Bool} {n : List UInt8} {m : Mst} (ho : nextO code ((ls.take k).map f) = .look a n m) :
    folO code f (nextO code ((ls.take k).map f)) (ls.drop k) = if n = ls[k].name ∧ a = ls[k].ask then folO code f (nextO code ((ls.take (k + 1)).map f)) (ls.drop (k + 1)) else none := by
  rw [List.drop_eq_getElem_cons h, List.take_succ_eq_append_getElem h, List.map_append, List.map_singleton, nextO_app, ho, folO]
theorem folO_fin {code : List Ins} {f : Lnk → Rpl} {ls : List Lnk} {k : Nat} (h : k < ls.length) {c : Int} {t : List UInt8} {n : Nat} (ho : nextO code ((ls.take k).map f) = .fin c t n) :
    folO code f (nextO code ((ls.take k).map f)) (ls.drop k) = none := by
  rw [List.drop_eq_getElem_cons h, ho, folO]
theorem folO_0 {code : List Ins} {f : Lnk → Rpl} {ls : List Lnk} : folO code f (nextO code ((ls.take 0).map f)) (ls.drop 0) = folO code f (run code start) ls := by
  simp [nextO]
/-- What is answered in a valid account is a fit reply. -/
theorem replyD_ok {ds : List Deed} {i : Nat} {d : Deed} (h : deedOk ds i d = true) : replyOk (replyD d) = true := by
  have h0 := h
  obtain ⟨h1, h2, h3⟩ := deed_parts h
  simp only [deedOk, Bool.and_eq_true, decide_eq_true_eq] at h0
  obtain ⟨_, h4⟩ := h0
  have hc : 0 ≤ d.code ∧ d.code ≤ 5 := by
    rcases h3 with h3 | h3 | ⟨h3, h5, h6, _⟩
    · rw [if_pos h3] at h4
      simp only [plainD, Bool.and_eq_true, decide_eq_true_eq] at h4
      omega
    · rw [if_neg (by omega), if_pos h3] at h4
      simp only [plainD, Bool.and_eq_true, decide_eq_true_eq] at h4
      omega
    · exact ⟨h5, h6⟩
  have h7 : d.code ≤ 7 := by omega
  simp [replyD, replyOk, h2, hc.1, h7]
theorem ansL_ok {ds : List Deed} (h : ∀ i, i < ds.length → deedOk ds i (dAt ds i) = true) {i : Nat} (hi : i ≤ ds.length) {l : Lnk} (hl : l.ask = true → 0 ≤ l.at_ ∧ l.at_ < i) : replyOk (ansL ds l) = true := by
  unfold ansL
  split
  · rename_i ha
    have := hl ha
    exact replyD_ok (h l.at_.toNat (by omega))
  · simp [replyOk]
/-- The document's answer of a link. -/
def ansS (d : Deed) : Rpl := if d.kind = 1 then ⟨true, 0, d.text⟩ else if d.kind = 3 then ⟨true, d.code, d.text⟩ else ⟨false, 0, []⟩
theorem ansS_eq {ds : List Deed} {i : Nat} {d : Deed} (h : deedOk ds i d = true) : ansS d = replyD d := by
  have h0 := h
  obtain ⟨h1, h2, h3⟩ := deed_parts h
  simp only [deedOk, Bool.and_eq_true, decide_eq_true_eq] at h0
  obtain ⟨_, h4⟩ := h0
  unfold ansS replyD
  rcases h3 with h3 | h3 | ⟨h3, h5, h6, _⟩
  · rw [if_pos h3] at h4
    simp only [plainD, Bool.and_eq_true, decide_eq_true_eq] at h4
    simp [h3, h4.1.1]
  · rw [if_neg (by omega), if_pos h3] at h4
    simp only [plainD, Bool.and_eq_true, decide_eq_true_eq] at h4
    simp [h3, h4.1.1.1, h4.2]
  · simp [h3]
end Go.Am

/- Making: what is made, how much it can be. No condition. -/
set_option linter.unusedSimpArgs false
set_option linter.unusedVariables false
namespace Go.Am
open Go
/-- Does something lie or is something made under a name? -/
def hasN (sp : Spc) (n : List UInt8) : Bool := decide (n ∈ sNames sp) || decide (n ∈ tNames sp)
def souT (sp : Spc) (n : List UInt8) : List UInt8 := (sp.sources.getD ((sNames sp).idxOf n) Sou.zero).text
def tgtA (sp : Spc) (n : List UInt8) : List Ins := (sp.targets.getD ((tNames sp).idxOf n) Tgt.zero).action
def namesD (ds : List Deed) : List (List UInt8) := ds.map (·.name)
/-- A making's end: a place among deeds, or a stop. -/
inductive Mk
  | at_ (i : Nat) (ds : List Deed)
  | stop (r : Res)
/-- A run's end. -/
inductive Rn
  | done (c : Int) (t : List UInt8) (ds : List Deed) (ls : List Lnk)
  | stop (r : Res)
def runM (mk : List Deed → List UInt8 → Mk) (sp : Spc) (code : List Ins) : Nat → Out → List Deed → List Lnk → Rn
  | _, .fin c t _, ds, ls => .done c t ds ls
  | _, .go _, ds, ls => .done 0 [] ds ls
  | 0, .look _ _ _, ds, ls => .done 0 [] ds ls
  | f + 1, .look a n m, ds, ls =>
    if a then (match mk ds n with
      | .stop r => .stop r
      | .at_ i ds' => runM mk sp code f (resume code (.look true n m) (replyD (dAt ds' i))) ds' (ls ++ [⟨n, true, false, i⟩]))
    else runM mk sp code f (resume code (.look false n m) ⟨hasN sp n, 0, []⟩) ds (ls ++ [⟨n, false, hasN sp n, 0⟩])
def makeM (sp : Spc) : Nat → List (List UInt8) → List Deed → List UInt8 → Mk
  | 0, _, _, _ => .stop ⟨0, [], []⟩
  | f + 1, way, ds, n =>
    if n ∈ namesD ds then .at_ ((namesD ds).idxOf n) ds
    else if n ∈ sNames sp then .at_ ds.length (ds ++ [⟨n, 1, 0, souT sp n, [], []⟩])
    else if n ∉ tNames sp then .at_ ds.length (ds ++ [⟨n, 2, 0, [], [], []⟩])
    else if n ∈ way then .stop ⟨6, [], way.drop (way.idxOf n)⟩
    else if way.length = 60 then .stop ⟨7, n, []⟩
    else match runM (fun ds n' => makeM sp f (way ++ [n]) ds n') sp (tgtA sp n) 200 (run (tgtA sp n) start) ds [] with
      | .stop r => .stop r
      | .done c t ds' ls => .at_ ds'.length (ds' ++ [⟨n, 3, c, t, tgtA sp n, ls⟩])
/-- What holds of what is made, and of what is being made. -/
structure MkOk (sp : Spc) (way : List (List UInt8)) (ds : List Deed) : Prop where
  nd : (namesD ds).Nodup
  wnd : way.Nodup
  wt : ∀ n ∈ way, n ∈ tNames sp ∧ n ∉ namesD ds
  fit : ∀ d ∈ ds, replyOk (replyD d) = true ∧ nameOk d.name = true
/-- The targets that are not begun. -/
def leftT (sp : Spc) (way : List (List UInt8)) (ds : List Deed) : Nat := ((tNames sp).filter fun n => decide (n ∉ namesD ds ∧ n ∉ way)).length
theorem filter_le' {α : Type} {p q : α → Bool} : ∀ {l : List α}, (∀ x ∈ l, p x = true → q x = true) → (l.filter p).length ≤ (l.filter q).length
  | [], _ => by simp
  | x :: l, h => by
    have ih := filter_le' (p := p) (q := q) (l := l) fun y hy => h y (by simp [hy])
    have hx := h x (by simp)
    cases hp : p x with
    | false =>
      rw [List.filter_cons_of_neg (by simp [hp])]
      refine Nat.le_trans ih ?_
      cases hq : q x with
      | false => rw [List.filter_cons_of_neg (by simp [hq])]; exact Nat.le_refl _
      | true => rw [List.filter_cons_of_pos (by simp [hq])]; simp
    | true =>
      rw [List.filter_cons_of_pos (by simp [hp]), List.filter_cons_of_pos (by simp [hx hp])]
      simpa using ih
theorem filter_lt' {α : Type} {p q : α → Bool} {a : α} : ∀ {l : List α}, (∀ x ∈ l, p x = true → q x = true) → a ∈ l → p a = false → q a = true → (l.filter p).length + 1 ≤ (l.filter q).length
  | [], _, ha, _, _ => by cases ha
  | x :: l, h, ha, hp, hq => by
    have hx := h x (by simp)
    by_cases hxa : x = a
    · subst hxa
      have ih := filter_le' (p := p) (q := q) (l := l) fun y hy => h y (by simp [hy])
      rw [List.filter_cons_of_neg (by simp [hp]), List.filter_cons_of_pos (by simp [hq])]
      simpa using ih
    · have ih := filter_lt' (p := p) (q := q) (l := l) (fun y hy => h y (by simp [hy])) ((List.mem_cons.1 ha).resolve_left (Ne.symm hxa)) hp hq
      cases hpx : p x with
      | false =>
        rw [List.filter_cons_of_neg (by simp [hpx])]
        refine Nat.le_trans ih ?_
        cases hqx : q x with
        | false => rw [List.filter_cons_of_neg (by simp [hqx])]; exact Nat.le_refl _
        | true => rw [List.filter_cons_of_pos (by simp [hqx])]; simp
      | true =>
        rw [List.filter_cons_of_pos (by simp [hpx]), List.filter_cons_of_pos (by simp [hx hpx])]
        simpa using ih
theorem leftT_way {sp : Spc} {way : List (List UInt8)} {ds : List Deed} {n : List UInt8} (h1 : n ∈ tNames sp) (h2 : n ∉ namesD ds) (h3 : n ∉ way) : leftT sp (way ++ [n]) ds + 1 ≤ leftT sp way ds := by
  refine filter_lt' (a := n) (fun x hx hp => ?_) h1 (by simp) (by simp [h2, h3])
  simp only [decide_eq_true_eq, List.mem_append, List.mem_singleton, not_or] at hp ⊢
  exact ⟨hp.1, hp.2.1⟩
theorem leftT_put {sp : Spc} {way : List (List UInt8)} {ds : List Deed} {d : Deed} : leftT sp way (ds ++ [d]) ≤ leftT sp way ds := by
  unfold leftT
  refine filter_le' (q := fun n => decide (n ∉ namesD ds ∧ n ∉ way)) fun x hx hp => ?_
  have hp := of_decide_eq_true hp
  have e : namesD (ds ++ [d]) = namesD ds ++ [d.name] := by simp [namesD]
  rw [e] at hp
  exact decide_eq_true ⟨fun h => hp.1 (List.mem_append_left _ h), hp.2⟩
theorem leftT_done {sp : Spc} {way : List (List UInt8)} {ds : List Deed} {d : Deed} : leftT sp way (ds ++ [d]) ≤ leftT sp (way ++ [d.name]) ds := by
  refine filter_le' fun x hx hp => ?_
  simp only [decide_eq_true_eq, namesD, List.map_append, List.map_cons, List.map_nil, List.mem_append, List.mem_singleton, not_or] at hp ⊢
  exact ⟨hp.1.1, hp.2, hp.1.2⟩
theorem leftT_le {sp : Spc} (way : List (List UInt8)) (ds : List Deed) : leftT sp way ds ≤ sp.targets.length := by
  refine Nat.le_trans (List.length_filter_le _ _) ?_
  simp [tNames]
/-- A stop that can be. -/
def StopOk (r : Res) : Prop := (r.code = 6 ∨ r.code = 7) ∧ r.text.length ≤ 60 ∧ r.chain.length ≤ 60 ∧ ∀ s ∈ r.chain, s.length ≤ 60
/-- What a making may end in. -/
def MkEnd (sp : Spc) (way : List (List UInt8)) (ds : List Deed) (n : List UInt8) (k : Nat) : Mk → Prop
  | .at_ i ds' => MkOk sp way ds' ∧ ds <+: ds' ∧ i < ds'.length ∧ (dAt ds' i).name = n ∧ ds'.length + 201 * leftT sp way ds' ≤ ds.length + 201 * leftT sp way ds + k
  | .stop r => StopOk r
theorem decN_len' (n : Nat) : (decN n).length ≤ n / 10 + 2 := by
  induction n using Nat.strongRecOn with
  | _ n ih =>
    by_cases h : n < 10
    · rw [decN_small h]; simp
    · rw [decN_big h]
      have := ih (n / 10) (by omega)
      simp only [List.length_append, List.length_singleton]
      omega
theorem mstep_fin {code : List Ins} (hc : validP code = true) {m : Mst} (hk : Mok m) {c : Int} {t : List UInt8} {n : Nat} (h : mstep code m = .fin c t n) : 0 ≤ c ∧ c ≤ 3 ∧ t.length ≤ 2000 := by
  have ha := hk.at_
  have hs := hk.steps
  have hd := decN_len' m.at_
  have ht : (top1 m.stk).length ≤ 2000 := top1_len hk.txt
  unfold mstep at h
  split at h
  · injection h with h1 h2 h3
    subst h1 h2
    exact ⟨by decide, by decide, by omega⟩
  · split at h
    · injection h with h1 h2 h3
      subst h1 h2
      exact ⟨by decide, by decide, by simp⟩
    · unfold doIns at h
      dsimp only at h
      split at h
      · injection h with h1 h2 h3
        subst h1 h2
        exact ⟨by decide, by decide, by omega⟩
      · split at h
        · unfold pushM at h
          split at h
          · injection h with h1 h2 h3
            subst h1 h2
            exact ⟨by decide, by decide, by dsimp only; omega⟩
          · cases h
        · unfold moveM at h
          dsimp only at h
          split at h
          · cases h
          split at h
          · cases h
          split at h
          · cases h
          split at h
          · unfold lookM at h
            dsimp only at h
            split at h
            · injection h with h1 h2 h3
              subst h1 h2
              exact ⟨by decide, by decide, by omega⟩
            split at h
            · injection h with h1 h2 h3
              subst h1 h2
              exact ⟨by decide, by decide, by simp⟩
            · cases h
          split at h
          · injection h with h1 h2 h3
            subst h1 h2
            exact ⟨by decide, by decide, ht⟩
          · injection h with h1 h2 h3
            subst h1 h2
            exact ⟨by decide, by decide, ht⟩
/-- An end that can be told. -/
def FinOk (o : Out) : Prop := ∀ c t n, o = .fin c t n → 0 ≤ c ∧ c ≤ 5 ∧ t.length ≤ 2000
theorem run_finOk {code : List Ins} (hc : validP code = true) : ∀ (k : Nat) (m : Mst), Mok m → 2001 - m.steps = k → FinOk (run code m)
  | k, m, hk, hm => by
    have hs0 := hk.steps
    rw [run_eq code hs0]
    cases hs : mstep code m with
    | go m2 =>
      have h2 := mstep_go hs
      exact run_finOk hc (2001 - m2.steps) m2 (mstep_ok hc hk hs) rfl
    | look a n m2 => intro c t n h; cases h
    | fin c t n =>
      intro c' t' n' h
      injection h with h1 h2 h3
      subst h1 h2
      have := mstep_fin hc hk hs
      exact ⟨this.1, by omega, this.2.2⟩
termination_by k => k
decreasing_by
  have h2 := mstep_go hs
  omega
/-- What stands at a look, the k-th one. -/
def LookAt (k : Nat) (o : Out) : Prop := ∀ a n m, o = .look a n m → Mok m ∧ m.stk.length ≤ 49 ∧ m.at_ < 200 ∧ m.looks = k ∧ nameOk n = true ∧ m.looks ≤ 200
theorem run_lookAt {code : List Ins} (hc : validP code = true) : ∀ (k : Nat) (m : Mst), Mok m → 2001 - m.steps = k → LookAt (m.looks + 1) (run code m)
  | k, m, hk, hm => by
    have hs0 := hk.steps
    rw [run_eq code hs0]
    cases hs : mstep code m with
    | go m2 =>
      have h2 := mstep_go hs
      have := run_lookAt hc (2001 - m2.steps) m2 (mstep_ok hc hk hs) rfl
      rw [h2.2.1] at this
      exact this
    | fin c t n => intro a n m h; cases h
    | look a n m2 =>
      intro a' n' m' h
      injection h with h1 h2 h3
      subst h3 h2
      have h5 := mstep_look hs
      have h4 := look_ok hk hs
      have h6 := hk.looks
      have := validP_len hc
      rw [h5.1] at h4 ⊢
      exact ⟨h4.1, h4.2.1, by dsimp only; omega, rfl, h5.2.2.2.1, by dsimp only; omega⟩
termination_by k => k
decreasing_by
  have h2 := mstep_go hs
  omega
theorem resume_at {code : List Ins} (hc : validP code = true) {a : Bool} {n : List UInt8} {m : Mst} {k : Nat} {r : Rpl} (h : LookAt k (.look a n m)) (hr : replyOk r = true) :
    LookAt (k + 1) (resume code (.look a n m) r) ∧ FinOk (resume code (.look a n m) r) := by
  obtain ⟨h1, h2, h3, h4, h5, h6⟩ := h a n m rfl
  simp only [resume]
  cases ha : answ a n m r with
  | go m2 =>
    have hm := answ_ok h1 h2 h3 hr ha
    have hg := answ_go ha
    refine ⟨?_, run_finOk hc _ m2 hm rfl⟩
    have := run_lookAt hc _ m2 hm rfl
    rw [hg.2, h4] at this
    exact this
  | fin c t n' =>
    refine ⟨fun a n m h => (by cases h), fun c' t' n'' h => ?_⟩
    simp only [runO] at h
    injection h with e1 e2 e3
    subst e1 e2
    unfold answ at ha
    have hn := nameOk_len h5
    split at ha
    · split at ha
      · injection ha with e1 e2 e3
        subst e1 e2
        exact ⟨by decide, by decide, by omega⟩
      · split at ha
        · injection ha with e1 e2 e3
          subst e1 e2
          exact ⟨by decide, by decide, by omega⟩
        · cases ha
    · cases ha
  | look a2 n2 m2 => exact absurd ha answ_nl
/-- The space is a valid one. -/
theorem idxOf_map {α : Type} (f : α → List UInt8) {l : List α} {n : List UInt8} (h : n ∈ l.map f) : ∃ h' : (l.map f).idxOf n < l.length, f (l[(l.map f).idxOf n]) = n := by
  have hl := List.idxOf_lt_length_iff.2 h
  have h' : (l.map f).idxOf n < l.length := by simpa using hl
  refine ⟨h', ?_⟩
  have := List.getElem_idxOf hl
  rwa [List.getElem_map] at this
theorem souT_at {sp : Spc} {n : List UInt8} (hn : n ∈ sNames sp) : ∃ h : (sNames sp).idxOf n < sp.sources.length, souT sp n = (sp.sources[(sNames sp).idxOf n]).text ∧ (sp.sources[(sNames sp).idxOf n]).name = n := by
  obtain ⟨h, h2⟩ := idxOf_map _ hn
  exact ⟨h, by unfold souT; rw [List.getD_eq_getElem?_getD, show (sp.sources)[(sNames sp).idxOf n]? = some _ from List.getElem?_eq_getElem h]; rfl, h2⟩
theorem tgtA_at {sp : Spc} {n : List UInt8} (hn : n ∈ tNames sp) : ∃ h : (tNames sp).idxOf n < sp.targets.length, tgtA sp n = (sp.targets[(tNames sp).idxOf n]).action ∧ (sp.targets[(tNames sp).idxOf n]).name = n := by
  obtain ⟨h, h2⟩ := idxOf_map _ hn
  exact ⟨h, by unfold tgtA; rw [List.getD_eq_getElem?_getD, show (sp.targets)[(tNames sp).idxOf n]? = some _ from List.getElem?_eq_getElem h]; rfl, h2⟩
theorem souT_ok {sp : Spc} (hsp : checkSpace sp = 0) {n : List UInt8} (hn : n ∈ sNames sp) : (souT sp n).length ≤ 2000 := by
  obtain ⟨h, h1, h2⟩ := souT_at hn
  rw [h1]
  exact (checkSpace_ok hsp).2.2.2.2.2.2.1 _ (List.getElem_mem h)
theorem tgtA_ok {sp : Spc} (hsp : checkSpace sp = 0) {n : List UInt8} (hn : n ∈ tNames sp) : validP (tgtA sp n) = true := by
  obtain ⟨h, h1, h2⟩ := tgtA_at hn
  rw [h1]
  exact (checkSpace_ok hsp).2.2.2.2.2.2.2 _ (List.getElem_mem h)
/-- What a run may end in. -/
def RnEnd (sp : Spc) (way : List (List UInt8)) (ds : List Deed) (k : Nat) : Rn → Prop
  | .done c t ds' ls => MkOk sp way ds' ∧ ds <+: ds' ∧ 0 ≤ c ∧ c ≤ 5 ∧ t.length ≤ 2000 ∧ ls.length ≤ 200 ∧ ds'.length + 201 * leftT sp way ds' ≤ ds.length + 201 * leftT sp way ds + k
  | .stop r => StopOk r
theorem runM_ok {sp : Spc} {way : List (List UInt8)} {code : List Ins} {mk : List Deed → List UInt8 → Mk} (hc : validP code = true)
    (hmk : ∀ ds n, MkOk sp way ds → nameOk n = true → MkEnd sp way ds n 1 (mk ds n)) :
    ∀ (f : Nat) (o : Out) (ds : List Deed) (ls : List Lnk), ls.length + f = 200 → LookAt (ls.length + 1) o → FinOk o → (∀ m, o ≠ .go m) → MkOk sp way ds → RnEnd sp way ds f (runM mk sp code f o ds ls)
  | f, .go m, ds, ls, _, _, _, hg, _ => absurd rfl (hg m)
  | f, .fin c t n, ds, ls, hf, _, hfin, _, hk => by
    have := hfin c t n rfl
    rw [runM]
    · exact ⟨hk, List.prefix_refl _, this.1, this.2.1, this.2.2, by omega, by omega⟩
  | 0, .look a n m, ds, ls, hf, hl, _, _, _ => by
    have := hl a n m rfl
    omega
  | f + 1, .look a n m, ds, ls, hf, hl, _, _, hk => by
    have h := hl a n m rfl
    have hng : ∀ r m', resume code (.look a n m) r ≠ .go m' := by
      intro r m'
      simp only [resume]
      cases ha : answ a n m r with
      | go m2 =>
        simp only [runO]
        intro hc'
        by_cases hs : m2.steps ≤ 2000
        · exact run_ng code _ m2 m' rfl hs hc'
        · have hg := answ_go ha
          have := h.1.steps
          omega
      | fin c t n' => simp [runO]
      | look a2 n2 m2 => exact absurd ha answ_nl
    cases a with
    | true =>
      simp only [runM, if_true]
      have hm := hmk ds n hk h.2.2.2.2.1
      cases hmm : mk ds n with
      | stop r => rw [hmm] at hm; exact hm
      | at_ i ds' =>
        rw [hmm] at hm
        obtain ⟨m1, m2, m3, m4, m5⟩ := hm
        have hr : replyOk (replyD (dAt ds' i)) = true := by
          rw [dAt_lt m3]
          exact (m1.fit _ (List.getElem_mem m3)).1
        have h2 := resume_at hc hl hr
        have ih := runM_ok hc hmk f (resume code (.look true n m) (replyD (dAt ds' i))) ds' (ls ++ [⟨n, true, false, i⟩]) (by simp; omega) (by simpa using h2.1) h2.2 (hng _) m1
        dsimp only
        cases hR : runM mk sp code f (resume code (.look true n m) (replyD (dAt ds' i))) ds' (ls ++ [⟨n, true, false, i⟩]) with
        | stop r => rw [hR] at ih; exact ih
        | done c t ds2 ls2 =>
          rw [hR] at ih
          obtain ⟨i1, i2, i3, i4, i5, i6, i7⟩ := ih
          exact ⟨i1, m2.trans i2, i3, i4, i5, i6, by omega⟩
    | false =>
      simp only [runM, Bool.false_eq_true, if_false]
      have hr : replyOk ⟨hasN sp n, 0, []⟩ = true := by simp [replyOk]
      have h2 := resume_at hc hl hr
      have ih := runM_ok hc hmk f (resume code (.look false n m) ⟨hasN sp n, 0, []⟩) ds (ls ++ [⟨n, false, hasN sp n, 0⟩]) (by simp; omega) (by simpa using h2.1) h2.2 (hng _) hk
      cases hR : runM mk sp code f (resume code (.look false n m) ⟨hasN sp n, 0, []⟩) ds (ls ++ [⟨n, false, hasN sp n, 0⟩]) with
      | stop r => rw [hR] at ih; exact ih
      | done c t ds2 ls2 =>
        rw [hR] at ih
        obtain ⟨i1, i2, i3, i4, i5, i6, i7⟩ := ih
        exact ⟨i1, i2, i3, i4, i5, i6, by omega⟩
theorem dAt_app {ds : List Deed} {d : Deed} : dAt (ds ++ [d]) ds.length = d := by simp [dAt, List.getD]
theorem MkOk.put {sp : Spc} {way : List (List UInt8)} {ds : List Deed} {d : Deed} (h : MkOk sp way ds) (h1 : d.name ∉ namesD ds) (h2 : d.name ∉ way) (h3 : replyOk (replyD d) = true) (h4 : nameOk d.name = true) : MkOk sp way (ds ++ [d]) := by
  refine ⟨?_, h.wnd, fun n hn => ⟨(h.wt n hn).1, ?_⟩, fun x hx => ?_⟩
  · simp only [namesD, List.map_append, List.map_cons, List.map_nil]
    exact List.nodup_append.2 ⟨h.nd, by simp, fun a ha b hb hab => by
      simp only [List.mem_singleton] at hb
      exact h1 (by rw [← hb, ← hab]; exact ha)⟩
  · simp only [namesD, List.map_append, List.map_cons, List.map_nil, List.mem_append, List.mem_singleton, not_or]
    exact ⟨(h.wt n hn).2, by rintro rfl; exact h2 hn⟩
  · rcases List.mem_append.1 hx with hx | hx
    · exact h.fit x hx
    · rw [List.mem_singleton.1 hx]
      exact ⟨h3, h4⟩
theorem makeM_ok {sp : Spc} (hsp : checkSpace sp = 0) : ∀ (f : Nat) (way : List (List UInt8)) (ds : List Deed) (n : List UInt8), f + way.length = 61 → way.length ≤ 60 → MkOk sp way ds → nameOk n = true → MkEnd sp way ds n 1 (makeM sp f way ds n)
  | 0, way, ds, n, hf, hw, _, _ => by omega
  | f + 1, way, ds, n, hf, hw, hk, hn => by
    have hnl := nameOk_len hn
    rw [makeM]
    by_cases c1 : n ∈ namesD ds
    · rw [if_pos c1]
      obtain ⟨hlt, hlt2⟩ := idxOf_map _ c1
      refine ⟨hk, List.prefix_refl _, hlt, ?_, by omega⟩
      show (dAt ds ((ds.map (·.name)).idxOf n)).name = n
      rw [dAt_lt hlt]
      exact hlt2
    rw [if_neg c1]
    have hput : ∀ d : Deed, d.name = n → n ∉ way → replyOk (replyD d) = true → MkEnd sp way ds n 1 (.at_ ds.length (ds ++ [d])) := by
      rintro d rfl h2 h3
      have := leftT_put (sp := sp) (way := way) (ds := ds) (d := d)
      exact ⟨hk.put c1 h2 h3 hn, List.prefix_append _ _, by simp, by rw [dAt_app], by simp; omega⟩
    obtain ⟨q1, q2, q3, q4, q5, q6⟩ := checkSpace_ok hsp
    by_cases c2 : n ∈ sNames sp
    · rw [if_pos c2]
      refine hput _ rfl (fun hw => ?_) ?_
      · obtain ⟨h, h1, h2⟩ := souT_at c2
        exact q6.1 _ (List.getElem_mem h) (by rw [h2]; exact (hk.wt n hw).1)
      · have := souT_ok hsp c2
        simp [replyD, replyOk, this]
    rw [if_neg c2]
    by_cases c3 : n ∈ tNames sp
    · rw [if_neg (by simpa using c3)]
      by_cases c4 : n ∈ way
      · rw [if_pos c4]
        refine ⟨.inl rfl, by simp, by simp; omega, fun s hs => ?_⟩
        have hs' := List.mem_of_mem_drop hs
        have ht := (hk.wt s hs').1
        obtain ⟨t, ht1, ht2⟩ := List.mem_map.1 ht
        have := nameOk_len (q3 t ht1)
        rw [← ht2]
        omega
      rw [if_neg c4]
      by_cases c5 : way.length = 60
      · rw [if_pos c5]
        exact ⟨.inr rfl, by dsimp only; omega, by simp, by simp⟩
      rw [if_neg c5]
      have hc := tgtA_ok hsp c3
      have hkw : MkOk sp (way ++ [n]) ds := by
        refine ⟨hk.nd, List.nodup_append.2 ⟨hk.wnd, by simp, fun a ha b hb hab => ?_⟩, fun x hx => ?_, hk.fit⟩
        · simp only [List.mem_singleton] at hb
          exact c4 (by rw [← hb, ← hab]; exact ha)
        · rcases List.mem_append.1 hx with hx | hx
          · exact hk.wt x hx
          · rw [List.mem_singleton.1 hx]
            exact ⟨c3, c1⟩
      have hs := start_ok
      have hR := runM_ok hc (mk := fun ds n' => makeM sp f (way ++ [n]) ds n') (sp := sp) (way := way ++ [n]) (fun ds n' h1 h2 => makeM_ok hsp f (way ++ [n]) ds n' (by simp; omega) (by simp; omega) h1 h2) 200 (run (tgtA sp n) start) ds []
        (by simp) (run_lookAt hc _ start hs rfl) (run_finOk hc _ start hs rfl) (fun m => run_ng _ _ start m rfl hs.steps) hkw
      cases hRR : runM (fun ds n' => makeM sp f (way ++ [n]) ds n') sp (tgtA sp n) 200 (run (tgtA sp n) start) ds [] with
      | stop r => rw [hRR] at hR; exact hR
      | done c t ds' ls =>
        rw [hRR] at hR
        obtain ⟨i1, i2, i3, i4, i5, i6, i7⟩ := hR
        dsimp only
        have hnn : n ∉ namesD ds' := (i1.wt n (by simp)).2
        have hk' : MkOk sp way ds' := ⟨i1.nd, hk.wnd, fun x hx => i1.wt x (by simp [hx]), i1.fit⟩
        have hfit : replyOk (replyD ⟨n, 3, c, t, tgtA sp n, ls⟩) = true := by simp [replyD, replyOk, i3, i5, show c ≤ 7 by omega]
        have l1 := leftT_done (sp := sp) (way := way) (ds := ds') (d := ⟨n, 3, c, t, tgtA sp n, ls⟩)
        have l2 := leftT_way (sp := sp) (way := way) (ds := ds) c3 c1 c4
        refine ⟨hk'.put hnn c4 hfit hn, i2.trans (List.prefix_append _ _), by simp, by rw [dAt_app], ?_⟩
        simp only [List.length_append, List.length_singleton] at l1 ⊢
        omega
    · rw [if_pos (by simpa using c3)]
      exact hput _ rfl (fun hw => c3 (hk.wt n hw).1) (by simp [replyD, replyOk])
end Go.Am

/- Following an account: the walks. No condition. -/
set_option linter.unusedSimpArgs false
set_option linter.unusedVariables false
namespace Go.Am
open Go
theorem rpl_ok {r : Rpl} (h : replyOk r = true) : r.ok := by
  simp only [replyOk, Bool.and_eq_true, decide_eq_true_eq] at h
  obtain ⟨⟨h1, h2⟩, h3⟩ := h
  exact ⟨⟨by omega, by omega⟩, by unfold okS; omega⟩
theorem run_steps {code : List Ins} : ∀ (k : Nat) (m : Mst), m.steps ≤ 2000 → 2001 - m.steps = k → ∀ a n m', run code m = .look a n m' → m'.steps ≤ 2000
  | k, m, hs0, hm => by
    rw [run_eq code hs0]
    cases hs : mstep code m with
    | go m2 =>
      have h2 := mstep_go hs
      exact run_steps (2001 - m2.steps) m2 (by omega) rfl
    | fin c t n => intro a n m h; cases h
    | look a n m2 =>
      intro a' n' m' h
      injection h with h1 h2 h3
      subst h3
      have h5 := mstep_look hs
      rw [h5.1]
      dsimp only
      omega
termination_by k => k
decreasing_by
  have h2 := mstep_go hs
  omega
theorem nextO_ng {code : List Ins} (rs : List Rpl) : ∀ m : Mst, nextO code rs ≠ .go m := by
  have hres : ∀ (rs : List Rpl) (o : Out), (∀ m, o ≠ .go m) → (∀ a n m, o = .look a n m → m.steps ≤ 2000) → ∀ m, rs.foldl (resume code) o ≠ .go m := by
    intro rs
    induction rs with
    | nil => intro o h1 h2; exact h1
    | cons r rs ih =>
      intro o h1 h2
      rw [List.foldl_cons]
      cases o with
      | go m => exact absurd rfl (h1 m)
      | fin c t n => exact ih _ (by simp [resume]) (by simp [resume])
      | look a n m =>
        have hs := h2 a n m rfl
        simp only [resume]
        cases ha : answ a n m r with
        | go m2 =>
          have hg := answ_go ha
          exact ih _ (fun m' => run_ng code _ m2 m' rfl (by omega)) (run_steps _ m2 (by omega) rfl)
        | fin c t n' => exact ih _ (by simp [runO]) (by simp [runO])
        | look a2 n2 m2 => exact absurd ha answ_nl
  exact hres rs _ (fun m' => run_ng code _ _ m' rfl start_ok.steps) (run_steps _ _ start_ok.steps rfl)
end Go.Am
namespace Go.Proofs.YtephpieeibcihaaGreatDoor
open Go Go.Am Go.Proofs
set_option maxRecDepth 20000
variable {ng : Nat}
theorem reply_ac {own : Bool} {x : Deed} {c : List Value} {F : List Nat} {H : Heap} (hx : DeedR own H x c F) : AC Tryz.prog ng 134 [.agg c.toArray] H fun v S' => v = .agg (replyD x).c.toArray ∧ S' = H := by
  obtain ⟨hk, s1, s2, G1, G2, rfl, rfl, hc1, hc2⟩ := hx
  obtain ⟨a1, z1, rfl⟩ := hc1.form
  obtain ⟨a2, z2, rfl⟩ := hc2.form
  refine .flat (AC.go [] Tryz.func134 rfl Tryz.ntmps134 rfl ⟨mixed, by kernel_rfl⟩ ?_)
  simp +contextual (dsimp := false) [replyD, Rpl.c]
theorem l4Answer_ac {own : Bool} {ds : List Deed} {sd : Value} {FD : List Nat} {H : Heap} (hs : DeedsR own H ds [sd] FD) (l : Lnk) (i : Nat) (hok : ∀ i, i < ds.length → deedOk ds i (dAt ds i) = true) (hi : i ≤ ds.length) (hl : l.ask = true → 0 ≤ l.at_ ∧ l.at_ < i) :
    AC Tryz.prog ng 118 [.agg #[sd], .agg l.c.toArray] H fun v S' => v = .agg (ansL ds l).c.toArray ∧ S' = H := by
  obtain ⟨ad, zd, rfl⟩ := hs.form
  obtain ⟨ln, la, lh, lt⟩ := l
  refine .flat (AC.go [] Tryz.func118 rfl Tryz.ntmps118 rfl ⟨mixed, by kernel_rfl⟩ ?_)
  unfold ansL
  cases la with
  | false => simp +contextual (dsimp := false) [Lnk.c, Rpl.c]
  | true =>
    have h0 := hl rfl
    dsimp only at h0
    obtain ⟨n, rfl⟩ : ∃ n : Nat, lt = n := ⟨lt.toNat, by omega⟩
    have hn : n < ds.length := by omega
    simp only [Int.toNat_natCast, if_true]
    rw [← ansS_eq (hok n hn), dAt_lt hn]
    simp +contextual (dsimp := false) [Lnk.c]
    obtain ⟨id, o, c, e, f, ow, cs, Fi, E⟩ := SlR.get hs n hn
    obtain ⟨hk, s1, s2, G1, G2, rfl, hFi, hc1, hc2⟩ := E.rep
    obtain ⟨a1, z1, rfl⟩ := hc1.form
    obtain ⟨a2, z2, rfl⟩ := hc2.form
    simp +contextual (dsimp := false) [E.idx, E.goB, E.le, E.lt, E.ext]
    refine ifA_dec (fun h1 => ?_) (fun h1 => ?_)
    · simp [ansS, h1, Rpl.c]
    refine ifA_dec (fun h2 => ?_) (fun h2 => ?_)
    · simp [ansS, h1, h2, Rpl.c]
    · simp [ansS, h1, h2, Rpl.c]
theorem l4Run_ac {own : Bool} {ds : List Deed} {sd : Value} {FD : List Nat} {H : Heap} (hs : DeedsR own H ds [sd] FD) (hok : ∀ i, i < ds.length → deedOk ds i (dAt ds i) = true) (i : Nat) (hi : i < ds.length) (hk3 : ds[i].kind = 3) :
    AC Tryz.prog ng 78 [.agg #[sd], int i] H fun v S' => v = int (folD ds ds[i]) ∧ S' = H := by
  obtain ⟨ad, zd, rfl⟩ := hs.form
  refine .flat (AC.go [] Tryz.func78 rfl Tryz.ntmps78 rfl ⟨mixed, by kernel_rfl⟩ ?_)
  have hd := hok i hi
  rw [dAt_lt hi] at hd
  obtain ⟨d1, d2, d3⟩ := deed_parts hd
  obtain ⟨_, d4, d5, hv, d7, d8⟩ : ds[i].kind = 3 ∧ 0 ≤ ds[i].code ∧ ds[i].code ≤ 5 ∧ validP ds[i].action = true ∧ ds[i].links.length ≤ 200 ∧ ∀ l ∈ ds[i].links, l.name.length ≤ 60 ∧ (l.ask = true → 0 ≤ l.at_ ∧ l.at_ < i) := by
    rcases d3 with h | h | h
    · omega
    · omega
    · exact h
  simp +contextual (dsimp := false)
  obtain ⟨id, o, c, e, f, ow, cs, Fi, E⟩ := SlR.get hs i hi
  obtain ⟨hk, s1, s2, G1, G2, rfl, hFi, hc1, hc2⟩ := E.rep
  obtain ⟨a1, z1, rfl⟩ := hc1.form
  obtain ⟨a2, z2, rfl⟩ := hc2.form
  simp +contextual (dsimp := false) [E.idx, E.goB, E.le, E.lt, E.ext]
  refine LoopA.up (σ := Nat × Heap × Value × List Nat) [2, 5, 6] (fun x => [(6, x.2.2.1)]) (fun x => x.2.1)
    (fun x => x.1 ≤ ds[i].links.length ∧ H.length + 2 ≤ x.2.1.length ∧ (∀ j, j < H.length + 2 → x.2.1[j]? = (H ++ [(⟨.cells #[.slice ad ds.length zd] 58 (0, 0), true, true⟩ : Blk), ⟨.cells #[str ds[i].name, int ds[i].kind, int ds[i].code, str ds[i].text, .slice a1 ds[i].action.length z1, .slice a2 ds[i].links.length z2] 82 (0, 0), true, true⟩])[j]?) ∧ RplsR true x.2.1 ((ds[i].links.take x.1).map (ansL ds)) [x.2.2.1] x.2.2.2 ∧ Fresh (H.length + 2) x.2.2.2 ∧
      folO ds[i].action (ansL ds) (nextO ds[i].action ((ds[i].links.take x.1).map (ansL ds))) (ds[i].links.drop x.1) = folO ds[i].action (ansL ds) (run ds[i].action Am.start) ds[i].links)
    (fun x => ds[i].links.length + 1 - x.1) (0, _, _, [H.length + 2]) rfl ⟨by simp, by simp, fun j hj => ?_, SlR.mt (e := 185) (f := (0, 0)) (by simp), Fresh.one (Nat.le_refl _), folO_0⟩ ?_
  · rw [List.getElem?_append, List.getElem?_append]
    split
    · rfl
    · rcases (show j - H.length = 0 ∨ j - H.length = 1 by omega) with h | h <;> rw [h] <;> rfl
  rintro ⟨k, hp, sv, FB⟩ ⟨gk, gl, gx, gr, gf, go⟩
  dsimp only at gk gl gx gr gf go
  have e0 := (gx H.length (by omega)).trans (by simp : (H ++ [(⟨.cells #[.slice ad ds.length zd] 58 (0, 0), true, true⟩ : Blk), ⟨.cells #[str ds[i].name, int ds[i].kind, int ds[i].code, str ds[i].text, .slice a1 ds[i].action.length z1, .slice a2 ds[i].links.length z2] 82 (0, 0), true, true⟩])[H.length]? = some (⟨.cells #[.slice ad ds.length zd] 58 (0, 0), true, true⟩ : Blk))
  have e1 := (gx (H.length + 1) (by omega)).trans (by simp : (H ++ [(⟨.cells #[.slice ad ds.length zd] 58 (0, 0), true, true⟩ : Blk), ⟨.cells #[str ds[i].name, int ds[i].kind, int ds[i].code, str ds[i].text, .slice a1 ds[i].action.length z1, .slice a2 ds[i].links.length z2] 82 (0, 0), true, true⟩])[H.length + 1]? = some (⟨.cells #[str ds[i].name, int ds[i].kind, int ds[i].code, str ds[i].text, .slice a1 ds[i].action.length z1, .slice a2 ds[i].links.length z2] 82 (0, 0), true, true⟩ : Blk))
  have hex : Ext H hp := fun j hj => (gx j (by omega)).trans (get_ext hj)
  have hlen : ((ds[i].links.take k).map (ansL ds)).length = k := by simp; omega
  generalize hrs : (ds[i].links.take k).map (ansL ds) = rs at gr go hlen
  have hrok : nextOk ds[i].action rs = true := by
    simp only [nextOk, Bool.and_eq_true, decide_eq_true_eq]
    refine ⟨⟨hv, by omega⟩, List.all_eq_true.2 fun r hr => ?_⟩
    rw [← hrs] at hr
    obtain ⟨l, hl, rfl⟩ := List.mem_map.1 hr
    exact ansL_ok hok (Nat.le_of_lt hi) (d8 l (List.mem_of_mem_take hl)).2
  obtain ⟨ar, zr, rfl⟩ := gr.form
  have gr' := gr
  rw [hlen] at gr'
  simp +contextual (dsimp := false) [goB_of e1, e1]
  refine CallK.fl ⟨_, Tryz.func117, rfl, rfl⟩ (specNext_ac (Rp.ext hc1 hex) gr) ?_
  have hnx : next ds[i].action rs = turnOf (nextO ds[i].action rs) := by simp [next, hrok]
  rw [hnx]
  generalize ho : nextO ds[i].action rs = o at go
  have e1T : ∀ T : Heap, (hp ++ T)[H.length + 1]? = _ := fun T => (List.getElem?_append_left (by omega)).trans e1
  have e0T : ∀ T : Heap, (hp ++ T)[H.length]? = _ := fun T => (List.getElem?_append_left (by omega)).trans e0
  have hfd : folD ds ds[i] = folE ds[i] (folO ds[i].action (ansL ds) o (ds[i].links.drop k)) := by
    unfold folD
    rw [if_pos hk3, ← go]
  have hexT : ∀ T : Heap, Ext H (hp ++ T) := fun T => hex.trans (Ext.app _ _)
  cases o with
  | go m => exact absurd ho (nextO_ng rs m)
  | fin cc tx n =>
    simp +contextual (dsimp := false) [turnOf, Trn.c, e1T, hlen]
    refine ifA_dec (fun h7 => ?_) (fun h7 => ?_)
    · rw [hfd, ← ho, ← hrs, folO_fin h7 (by rw [hrs]; exact ho)]
      exact ⟨rfl, hexT _⟩
    · rw [hfd, List.drop_of_length_le (by omega), folO]
      simp only [folE]
      refine ifA_dec (fun h8 => ?_) (fun h8 => ?_)
      · refine ifA_dec (fun h9 => ?_) (fun h9 => ?_)
        · rw [if_neg (by simp [h8, h9])]
          exact ⟨rfl, hexT _⟩
        · rw [if_pos (.inr h9)]
          exact ⟨rfl, hexT _⟩
      · rw [if_pos (.inl h8)]
        exact ⟨rfl, hexT _⟩
  | look a nm m =>
    simp +contextual (dsimp := false) [turnOf, Trn.c, e1T, hlen]
    refine ifA_dec (fun h7 => ?_) (fun h7 => ?_)
    · rw [hfd, List.drop_of_length_le (by omega), folO]
      exact ⟨rfl, hexT _⟩
    · have h8 : k < ds[i].links.length := by omega
      obtain ⟨id5, o5, c5, e5, f5, ow5, cs5, Fi5, E5⟩ := SlR.get (Rp.ext hc2 hex) k h8
      obtain ⟨rfl, rfl, hok5⟩ := E5.rep
      have hstep := folO_s h8 (f := ansL ds) (code := ds[i].action) (a := a) (n := nm) (m := m) (by rw [hrs]; exact ho)
      rw [hrs, ho] at hstep
      have hc0 := E5.cell0 (by omega)
      have hc1' := E5.cell 1 (by omega)
      simp +contextual (dsimp := false) [h7, E5.idx, E5.goB, E5.le, E5.lt, E5.ext, Lnk.c, e1T, bin_bneq und4, hc0, hc1']
      refine ifA_dec (fun h9 => ?_) (fun h9 => ?_)
      · refine ifA_dec (fun h10 => ?_) (fun h10 => ?_)
        · rw [if_pos ⟨h9.symm, h10.symm⟩] at hstep
          simp +contextual (dsimp := false) [e0T, e1T, E5.idx, E5.goB, E5.le, E5.lt, E5.ext, Lnk.c]
          refine CallK.fl ⟨_, Tryz.func118, rfl, rfl⟩ (l4Answer_ac (Rp.ext hs (hexT _)) ds[i].links[k] i hok (Nat.le_of_lt hi) (d8 _ (List.getElem_mem h8)).2) ?_
          have hrk := ansL_ok hok (Nat.le_of_lt hi) (d8 _ (List.getElem_mem h8)).2
          simp +contextual (dsimp := false) [Rpl.c]
          refine AppK.one (R := RplR) (l := rs) (ex := 185) (fx := (0, 0)) (ox := true) (base := H.length + 2) (x := ansL ds ds[i].links[k]) (cx := (ansL ds ds[i].links[k]).c) (Fx := []) slt180 und180 (Rp.ext gr' (Ext.app _ _)) gf (by simp [Rpl.c]) ⟨rfl, rfl, rpl_ok hrk⟩ (Fresh.nil _) (by simp) (by simp; omega) (by omega) (by decide) ?_
          intro s2 H2 F2 q1 q2 q3 q4 q5
          simp only [List.length_append, List.length_cons, List.length_nil] at q3 q4
          have hnb : ∀ j, j < H.length + 2 → j ∉ FB := fun j hj hm => by have := gf.1 j hm; omega
          simp +contextual (dsimp := false)
          refine LoopN.of (k + 1, H2, s2, F2) rfl ⟨h8, by dsimp only; omega, fun j hj => ?_, ?_, q2, ?_⟩ (by dsimp only; omega)
          · exact (q4 j (by omega) (hnb j hj)).trans ((List.getElem?_append_left (by omega)).trans (gx j hj))
          · dsimp only
            rw [List.take_succ_eq_append_getElem h8, List.map_append, hrs]
            exact q1
          · dsimp only
            rw [← hstep]
            exact go
        · rw [if_neg (fun h => h10 h.2.symm)] at hstep
          rw [hfd, hstep]
          exact ⟨rfl, hexT _⟩
      · rw [if_neg (fun h => h9 h.1.symm)] at hstep
        rw [hfd, hstep]
        exact ⟨rfl, hexT _⟩
set_option maxHeartbeats 2000000 in
theorem follows_ac {own : Bool} {ds : List Deed} {sd : Value} {FD : List Nat} {H : Heap} (hs : DeedsR own H ds [sd] FD) (hok : ∀ i, i < ds.length → deedOk ds i (dAt ds i) = true) (i : Nat) (hi : i < ds.length) {c : List Value} {F : List Nat} (hx : DeedR own H ds[i] c F)
    (hP : P10 g10 H) (h2 : g10 < ng) :
    AC Tryz.prog ng 123 [.agg c.toArray, .agg #[sd]] H fun v S' => v = int (folD ds ds[i]) ∧ S' = H := by
  obtain ⟨ad, zd, rfl⟩ := hs.form
  obtain ⟨hk, s1, s2, G1, G2, rfl, rfl, hc1, hc2⟩ := hx
  obtain ⟨a1, z1, rfl⟩ := hc1.form
  obtain ⟨a2, z2, rfl⟩ := hc2.form
  refine .flat (AC.go [] Tryz.func123 rfl Tryz.ntmps123 rfl ⟨mixed, by kernel_rfl⟩ ?_)
  by_cases hk3 : ds[i].kind = 3
  · have hd := hok i hi
    rw [dAt_lt hi] at hd
    obtain ⟨d1, d2, d3⟩ := deed_parts hd
    obtain ⟨_, d4, d5, hv, d7, d8⟩ : ds[i].kind = 3 ∧ 0 ≤ ds[i].code ∧ ds[i].code ≤ 5 ∧ validP ds[i].action = true ∧ ds[i].links.length ≤ 200 ∧ ∀ l ∈ ds[i].links, l.name.length ≤ 60 ∧ (l.ask = true → 0 ≤ l.at_ ∧ l.at_ < i) := by
      rcases d3 with h | h | h
      · omega
      · omega
      · exact h
    simp +contextual (dsimp := false) [hk3]
    obtain ⟨H1, hH1⟩ : ∃ H1, H1 = H ++ [(⟨.cells #[str ds[i].name, int 3, int ds[i].code, str ds[i].text, .slice a1 ds[i].action.length z1, .slice a2 ds[i].links.length z2] 82 (0, 0), true, true⟩ : Blk), ⟨.cells #[.slice ad ds.length zd] 58 (0, 0), true, true⟩, ⟨.cells #[.slice a1 ds[i].action.length z1, .slice none 0 0, .int .i64 0, .int .i64 0, .int .i64 0, .bool false, .int .i64 0, .string ⟨⟨[]⟩⟩, .bool false, .string ⟨⟨[]⟩⟩, .int .i64 0] 204 (0, 0), true, true⟩] := ⟨_, rfl⟩
    have hl1 : H1.length = H.length + 3 := by rw [hH1]; simp
    have hx1 : Ext H H1 := by rw [hH1]; exact Ext.app _ _
    have b0 : H1[H.length]? = some ⟨.cells #[str ds[i].name, int 3, int ds[i].code, str ds[i].text, .slice a1 ds[i].action.length z1, .slice a2 ds[i].links.length z2] 82 (0, 0), true, true⟩ := by rw [hH1]; simp
    have b1 : H1[H.length + 1]? = some ⟨.cells #[.slice ad ds.length zd] 58 (0, 0), true, true⟩ := by rw [hH1]; simp
    have hm1 : MacR 204 H1 (H.length + 2) (.slice a1 ds[i].action.length z1) Am.start ⟨false, 0, [], false, [], 0⟩ [] := ⟨.slice none 0 0, by rw [hH1]; simp [macC, Am.start], SlR.nil, by simp, by simp⟩
    rw [← hH1]
    clear hH1
    have hgl : g10 < H.length := by
      obtain ⟨_, _, hh⟩ := hP
      exact (List.getElem?_eq_some_iff.1 hh).1
    have hn1 : NeedM own H1 (H.length + 2) (.slice a1 ds[i].action.length z1) ds[i].action [] G1 := ⟨Rp.ext hc1 hx1, fun hm => by have := Rp.lt hc1 _ hm; omega, by simp, hP.ext hx1, by omega, by simp⟩
    refine CallK.of ⟨_, Tryz.func133, rfl, rfl⟩ (run_ac hm1 hn1 hv start_ok h2) ?_
    rintro v S1 ⟨rfl, hE⟩
    have hb0 : ∀ o S, EndM 204 H1 (H.length + 2) (.slice a1 ds[i].action.length z1) [] o S → (∀ j, j < H1.length → j ≠ H.length + 2 → S[j]? = H1[j]?) ∧ H1.length ≤ S.length := by
      intro o S h
      cases o with
      | go m => exact absurd h id
      | fin c t n =>
        obtain ⟨m', F', hm, hf⟩ := h
        exact ⟨fun j hj hne => hf.2.1 j hj hne (by simp), hf.1⟩
      | look a nm m =>
        obtain ⟨F', hm, hf⟩ := h
        exact ⟨fun j hj hne => hf.2.1 j hj hne (by simp), hf.1⟩
    have q0 := (hb0 _ _ hE).1 H.length (by omega) (by omega)
    simp +contextual (dsimp := false) [q0, b0]
    refine LoopA.up (σ := Nat × Heap) [2, 3, 5, 20, 21, 22] (fun x => [(22, int x.1)]) (fun x => x.2)
      (fun x => x.1 ≤ ds[i].links.length ∧ EndM 204 H1 (H.length + 2) (.slice a1 ds[i].action.length z1) [] (nextO ds[i].action ((ds[i].links.take x.1).map (ansL ds))) x.2 ∧ LookOk (nextO ds[i].action ((ds[i].links.take x.1).map (ansL ds))) ∧
        folO ds[i].action (ansL ds) (nextO ds[i].action ((ds[i].links.take x.1).map (ansL ds))) (ds[i].links.drop x.1) = folO ds[i].action (ansL ds) (run ds[i].action Am.start) ds[i].links)
      (fun x => ds[i].links.length - x.1) (0, S1) rfl ⟨by simp, by simpa [nextO] using hE, by simpa [nextO] using run_lookOk hv _ Am.start start_ok rfl, folO_0⟩ ?_
    rintro ⟨k, hq⟩ ⟨gk, gE, gO, go⟩
    dsimp only at gk gE gO go
    simp +contextual (dsimp := false)
    have hgx := hb0 _ _ gE
    have hex : Ext H hq := fun j hj => (hgx.1 j (by omega) (by omega)).trans (hx1 j hj)
    have hexT : ∀ T : Heap, Ext H (hq ++ T) := fun T => hex.trans (Ext.app _ _)
    have e0 := (hgx.1 H.length (by omega) (by omega)).trans b0
    have e1 := (hgx.1 (H.length + 1) (by omega) (by omega)).trans b1
    have hql := hgx.2
    have e1T : ∀ T : Heap, (hq ++ T)[H.length + 1]? = _ := fun T => (List.getElem?_append_left (by omega)).trans e1
    generalize ho : nextO ds[i].action ((ds[i].links.take k).map (ansL ds)) = o at gE gO go
    have hfd : folD ds ds[i] = folE ds[i] (folO ds[i].action (ansL ds) o (ds[i].links.drop k)) := by
      unfold folD
      rw [if_pos hk3, ← go]
    refine ifA_dec (fun h7 => ?_) (fun h7 => ?_)
    · obtain ⟨id5, o5, c5, e5, f5, ow5, cs5, Fi5, E5⟩ := SlR.get (Rp.ext hc2 hex) k h7
      obtain ⟨rfl, rfl, hok5⟩ := E5.rep
      cases o with
      | go m => exact absurd gE id
      | fin cc tx n =>
        obtain ⟨m', F', hm, hf⟩ := gE
        obtain ⟨sv, hb, hst, hni', hnd⟩ := hm
        have hbT : ∀ T : Heap, (hq ++ T)[H.length + 2]? = _ := fun T => (List.getElem?_append_left (by omega)).trans hb
        simp +contextual (dsimp := false) [E5.idx, E5.goB, E5.le, E5.lt, E5.ext, Lnk.c, hbT]
        rw [hfd, ← ho, folO_fin h7 ho]
        exact ⟨rfl, hexT _⟩
      | look a nm m =>
        have hstep := folO_s h7 (f := ansL ds) (code := ds[i].action) (a := a) (n := nm) (m := m) ho
        rw [ho] at hstep
        have gE' := gE
        obtain ⟨F', hm, hf⟩ := gE
        obtain ⟨o1, o2, o3⟩ := gO a nm m rfl
        have hm' := fun T => MacR.ext hm (Ext.app hq T)
        obtain ⟨sv, hb, hst, hni', hnd⟩ := hm
        have hbT : ∀ T : Heap, (hq ++ T)[H.length + 2]? = _ := fun T => (List.getElem?_append_left (by omega)).trans hb
        simp +contextual (dsimp := false) [E5.idx, E5.goB, E5.le, E5.lt, E5.ext, Lnk.c, hbT, bin_bneq und4]
        have hlk := (d8 _ (List.getElem_mem h7)).2
        have hrk := ansL_ok hok (Nat.le_of_lt hi) hlk
        have hf2 : ∀ T : Heap, FrM H1 (H.length + 2) [] (hq ++ T) F' := fun T => hf.trans ⟨by simp, fun j hj _ _ => (Ext.app hq T) j hj, fun j hj => .inr hj⟩
        refine ifA_dec (fun h9 => ?_) (fun h9 => ?_)
        · refine ifA_dec (fun h10 => ?_) (fun h10 => ?_)
          · rw [if_pos ⟨h9, h10⟩] at hstep
            have hgo : ∀ (T : Heap) (S2 : Heap), EndM 204 (hq ++ T) (H.length + 2) (.slice a1 ds[i].action.length z1) F' (runO ds[i].action (answ a nm m (ansL ds ds[i].links[k]))) S2 →
                EndM 204 H1 (H.length + 2) (.slice a1 ds[i].action.length z1) [] (nextO ds[i].action ((ds[i].links.take (k + 1)).map (ansL ds))) S2 ∧ LookOk (nextO ds[i].action ((ds[i].links.take (k + 1)).map (ansL ds))) := by
              intro T S2 q
              rw [List.take_succ_eq_append_getElem h7, List.map_append, List.map_singleton, nextO_app, ho]
              exact ⟨EndM.trans (hf2 _) q, resume_lookOk hv hrk gO⟩
            cases hask : ds[i].links[k].ask with
            | true =>
              have h0 := hlk hask
              obtain ⟨n, hn⟩ : ∃ n : Nat, ds[i].links[k].at_ = n := ⟨ds[i].links[k].at_.toNat, by omega⟩
              have hnl : n < ds.length := by omega
              obtain ⟨id6, o6, c6, e6, f6, ow6, cs6, Fi6, E6⟩ := SlR.get (Rp.ext hs hex) n hnl
              have hrep6 := E6.rep
              obtain ⟨hk6, s61, s62, G61, G62, rfl, hFi6, hc61, hc62⟩ := E6.rep
              obtain ⟨a61, z61, rfl⟩ := hc61.form
              obtain ⟨a62, z62, rfl⟩ := hc62.form
              simp +contextual (dsimp := false) [hask, hn, e1T, E6.idx, E6.goB, E6.le, E6.lt, E6.ext]
              refine CallK.fl ⟨_, Tryz.func134, rfl, rfl⟩ (reply_ac (Rp.ext hrep6 (Ext.app _ _))) ?_
              have hans : ansL ds ds[i].links[k] = replyD ds[n] := by
                unfold ansL
                rw [if_pos hask, hn, Int.toNat_natCast, dAt_lt hnl]
              rw [← hans]
              simp +contextual (dsimp := false) [Rpl.c]
              refine CallK.of ⟨_, Tryz.func135, rfl, rfl⟩ (answer_ac (r := ansL ds ds[i].links[k]) (hm' _) (hn1.fr (hf2 _)) hv o1 o2 o3 hrk h2) ?_
              rintro v S2 ⟨rfl, q⟩
              simp +contextual (dsimp := false) [wrap_succ (show k < 9223372036854775807 by omega)]
              have hq2 := hgo _ _ q
              exact LoopN.of (k + 1, S2) rfl ⟨h7, hq2.1, hq2.2, by dsimp only; rw [← hstep]; exact go⟩ (by dsimp only; omega)
            | false =>
              have hans : ansL ds ds[i].links[k] = ⟨ds[i].links[k].has, 0, []⟩ := by
                unfold ansL
                rw [if_neg (by simp [hask])]
              simp +contextual (dsimp := false) [hask]
              refine CallK.of ⟨_, Tryz.func135, rfl, rfl⟩ (answer_ac (r := ⟨ds[i].links[k].has, 0, []⟩) (hm' _) (hn1.fr (hf2 _)) hv o1 o2 o3 (hans ▸ hrk) h2) ?_
              rintro v S2 ⟨rfl, q⟩
              simp +contextual (dsimp := false) [wrap_succ (show k < 9223372036854775807 by omega)]
              have hq2 := hgo _ _ (hans ▸ q)
              exact LoopN.of (k + 1, S2) rfl ⟨h7, hq2.1, hq2.2, by dsimp only; rw [← hstep]; exact go⟩ (by dsimp only; omega)
          · rw [if_neg (fun h => h10 h.2)] at hstep
            rw [hfd, hstep]
            exact ⟨rfl, hexT _⟩
        · rw [if_neg (fun h => h9 h.1)] at hstep
          rw [hfd, hstep]
          exact ⟨rfl, hexT _⟩
    · obtain rfl : k = ds[i].links.length := by omega
      rw [List.drop_length] at hfd
      cases o with
      | go m => exact absurd gE id
      | fin cc tx n =>
        obtain ⟨m', F', hm, hf⟩ := gE
        obtain ⟨sv, hb, hst, hni', hnd⟩ := hm
        simp +contextual (dsimp := false) [hb, e0]
        rw [hfd, folO]
        simp only [folE]
        refine ifA_dec (fun h8 => ?_) (fun h8 => ?_)
        · refine ifA_dec (fun h9 => ?_) (fun h9 => ?_)
          · rw [if_neg (by simp [h8, h9])]
            exact ⟨rfl, hex⟩
          · rw [if_pos (.inr h9)]
            exact ⟨rfl, hex⟩
        · rw [if_pos (.inl h8)]
          exact ⟨rfl, hex⟩
      | look a nm m =>
        obtain ⟨F', hm, hf⟩ := gE
        obtain ⟨sv, hb, hst, hni', hnd⟩ := hm
        simp +contextual (dsimp := false) [hb]
        rw [hfd, folO]
        exact ⟨rfl, hex⟩
  · simp +contextual (dsimp := false) [hk3]
    simp [folD, hk3]
end Go.Proofs.YtephpieeibcihaaGreatDoor

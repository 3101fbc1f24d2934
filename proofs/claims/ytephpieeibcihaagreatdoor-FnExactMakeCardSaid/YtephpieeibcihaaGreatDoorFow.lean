import Derived.Test.YtephpieeibcihaaGreatDoorByt
import Derived.Test.YtephpieeibcihaaGreatDoorAcc
import Derived.Test.YtephpieeibcihaaGreatDoorMch
import Derived.Test.YtephpieeibcihaaGreatDoorNxt
import Derived.Test.YtephpieeibcihaaGreatDoorSpX
import Derived.Test.YtephpieeibcihaaGreatDoorAccN
set_option linter.all false
namespace Go.Am
open Go
end Go.Am
namespace Go.Am
open Go
def replyD (d : Deed) : Rpl := ⟨decide (d.kind ≠ 2), d.code, d.text⟩
def ansL (ds : List Deed) (l : Lnk) : Rpl := if l.ask then replyD (dAt ds l.at_.toNat) else ⟨l.has, 0, []⟩
def folO (code : List Ins) (f : Lnk → Rpl) : Out → List Lnk → Option Out
  | o, [] => some o
  | .look a n m, l :: ls => if n = l.name ∧ a = l.ask then folO code f (resume code (.look a n m) (f l)) ls else none
  | .fin _ _ _, _ :: _ => none
  | .go _, _ :: _ => none
def folE (d : Deed) : Option Out → Int
  | some (.fin c t _) => if c ≠ d.code ∨ t ≠ d.text then 5 else 0
  | _ => 4
def folD (ds : List Deed) (d : Deed) : Int :=
  if d.kind = 3 then folE d (folO d.action (ansL ds) (run d.action start) d.links) else 0
theorem nextO_app (code : List Ins) (l : List Rpl) (r : Rpl) : nextO code (l ++ [r]) = resume code (nextO code l) r := by
  unfold nextO
  rw [List.foldl_append]
  rfl
end Go.Am
namespace Go.Am
open Go
def hasN (sp : Spc) (n : List UInt8) : Bool := decide (n ∈ sNames sp) || decide (n ∈ tNames sp)
def souT (sp : Spc) (n : List UInt8) : List UInt8 := (sp.sources.getD ((sNames sp).idxOf n) Sou.zero).text
def tgtA (sp : Spc) (n : List UInt8) : List Ins := (sp.targets.getD ((tNames sp).idxOf n) Tgt.zero).action
def namesD (ds : List Deed) : List (List UInt8) := ds.map (·.name)
inductive Mk
  | at_ (i : Nat) (ds : List Deed)
  | stop (r : Res)
inductive Rn
  | done (c : Int) (t : List UInt8) (ds : List Deed) (ls : List Lnk)
  | stop (r : Res)
def runM (mk : List Deed → List UInt8 → Mk) (sp : Spc) (code : List Ins) : Nat → Out → List Deed → List Lnk → Rn
  | _, .fin c t _, ds, ls => .done c t ds ls
  | _, .go _, ds, ls => .done 0 [] ds ls
  | 0, .look _ _ _, ds, ls => .done 0 [] ds ls
  | f + 1, .look a n m, ds, ls =>
    if a then (match mk ds n with
      | .stop r => .stop r
      | .at_ i ds' => runM mk sp code f (resume code (.look true n m) (replyD (dAt ds' i))) ds' (ls ++ [⟨n, true, false, i⟩]))
    else runM mk sp code f (resume code (.look false n m) ⟨hasN sp n, 0, []⟩) ds (ls ++ [⟨n, false, hasN sp n, 0⟩])
def makeM (sp : Spc) : Nat → List (List UInt8) → List Deed → List UInt8 → Mk
  | 0, _, _, _ => .stop ⟨0, [], []⟩
  | f + 1, way, ds, n =>
    if n ∈ namesD ds then .at_ ((namesD ds).idxOf n) ds
    else if n ∈ sNames sp then .at_ ds.length (ds ++ [⟨n, 1, 0, souT sp n, [], []⟩])
    else if n ∉ tNames sp then .at_ ds.length (ds ++ [⟨n, 2, 0, [], [], []⟩])
    else if n ∈ way then .stop ⟨6, [], way.drop (way.idxOf n)⟩
    else if way.length = 60 then .stop ⟨7, n, []⟩
    else match runM (fun ds n' => makeM sp f (way ++ [n]) ds n') sp (tgtA sp n) 200 (run (tgtA sp n) start) ds [] with
      | .stop r => .stop r
      | .done c t ds' ls => .at_ ds'.length (ds' ++ [⟨n, 3, c, t, tgtA sp n, ls⟩])
structure MkOk (sp : Spc) (way : List (List UInt8)) (ds : List Deed) : Prop where
  nd : (namesD ds).Nodup
  wnd : way.Nodup
  wt : ∀ n ∈ way, n ∈ tNames sp ∧ n ∉ namesD ds
  fit : ∀ d ∈ ds, replyOk (replyD d) = true ∧ nameOk d.name = true
def leftT (sp : Spc) (way : List (List UInt8)) (ds : List Deed) : Nat := ((tNames sp).filter fun n => decide (n ∉ namesD ds ∧ n ∉ way)).length
theorem filter_le' {α : Type} {p q : α → Bool} : ∀ {l : List α}, (∀ x ∈ l, p x = true → q x = true) → (l.filter p).length ≤ (l.filter q).length
  | [], _ => by simp
  | x :: l, h => by
    have ih := filter_le' (p := p) (q := q) (l := l) fun y hy => h y (by simp [hy])
    have hx := h x (by simp)
    cases hp : p x with
    | false =>
      rw [List.filter_cons_of_neg (by simp [hp])]
      refine Nat.le_trans ih ?_
      cases hq : q x with
      | false => rw [List.filter_cons_of_neg (by simp [hq])]; exact Nat.le_refl _
      | true => rw [List.filter_cons_of_pos (by simp [hq])]; simp
    | true =>
      rw [List.filter_cons_of_pos (by simp [hp]), List.filter_cons_of_pos (by simp [hx hp])]
      simpa using ih
theorem filter_lt' {α : Type} {p q : α → Bool} {a : α} : ∀ {l : List α}, (∀ x ∈ l, p x = true → q x = true) → a ∈ l → p a = false → q a = true → (l.filter p).length + 1 ≤ (l.filter q).length
  | [], _, ha, _, _ => by cases ha
  | x :: l, h, ha, hp, hq => by
    have hx := h x (by simp)
    by_cases hxa : x = a
    · subst hxa
      have ih := filter_le' (p := p) (q := q) (l := l) fun y hy => h y (by simp [hy])
      rw [List.filter_cons_of_neg (by simp [hp]), List.filter_cons_of_pos (by simp [hq])]
      simpa using ih
    · have ih := filter_lt' (p := p) (q := q) (l := l) (fun y hy => h y (by simp [hy])) ((List.mem_cons.1 ha).resolve_left (Ne.symm hxa)) hp hq
      cases hpx : p x with
      | false =>
        rw [List.filter_cons_of_neg (by simp [hpx])]
        refine Nat.le_trans ih ?_
        cases hqx : q x with
        | false => rw [List.filter_cons_of_neg (by simp [hqx])]; exact Nat.le_refl _
        | true => rw [List.filter_cons_of_pos (by simp [hqx])]; simp
      | true =>
        rw [List.filter_cons_of_pos (by simp [hpx]), List.filter_cons_of_pos (by simp [hx hpx])]
        simpa using ih
theorem leftT_way {sp : Spc} {way : List (List UInt8)} {ds : List Deed} {n : List UInt8} (h1 : n ∈ tNames sp) (h2 : n ∉ namesD ds) (h3 : n ∉ way) : leftT sp (way ++ [n]) ds + 1 ≤ leftT sp way ds := by
  refine filter_lt' (a := n) (fun x hx hp => ?_) h1 (by simp) (by simp [h2, h3])
  simp only [decide_eq_true_eq, List.mem_append, List.mem_singleton, not_or] at hp ⊢
  exact ⟨hp.1, hp.2.1⟩
theorem leftT_put {sp : Spc} {way : List (List UInt8)} {ds : List Deed} {d : Deed} : leftT sp way (ds ++ [d]) ≤ leftT sp way ds := by
  unfold leftT
  refine filter_le' (q := fun n => decide (n ∉ namesD ds ∧ n ∉ way)) fun x hx hp => ?_
  have hp := of_decide_eq_true hp
  have e : namesD (ds ++ [d]) = namesD ds ++ [d.name] := by simp [namesD]
  rw [e] at hp
  exact decide_eq_true ⟨fun h => hp.1 (List.mem_append_left _ h), hp.2⟩
theorem leftT_done {sp : Spc} {way : List (List UInt8)} {ds : List Deed} {d : Deed} : leftT sp way (ds ++ [d]) ≤ leftT sp (way ++ [d.name]) ds := by
  refine filter_le' fun x hx hp => ?_
  simp only [decide_eq_true_eq, namesD, List.map_append, List.map_cons, List.map_nil, List.mem_append, List.mem_singleton, not_or] at hp ⊢
  exact ⟨hp.1.1, hp.2, hp.1.2⟩
theorem leftT_le {sp : Spc} (way : List (List UInt8)) (ds : List Deed) : leftT sp way ds ≤ sp.targets.length := by
  refine Nat.le_trans (List.length_filter_le _ _) ?_
  simp [tNames]
def StopOk (r : Res) : Prop := (r.code = 6 ∨ r.code = 7) ∧ r.text.length ≤ 60 ∧ r.chain.length ≤ 60 ∧ ∀ s ∈ r.chain, s.length ≤ 60
def MkEnd (sp : Spc) (way : List (List UInt8)) (ds : List Deed) (n : List UInt8) (k : Nat) : Mk → Prop
  | .at_ i ds' => MkOk sp way ds' ∧ ds <+: ds' ∧ i < ds'.length ∧ (dAt ds' i).name = n ∧ ds'.length + 201 * leftT sp way ds' ≤ ds.length + 201 * leftT sp way ds + k
  | .stop r => StopOk r
theorem decN_len' (n : Nat) : (decN n).length ≤ n / 10 + 2 := by
  induction n using Nat.strongRecOn with
  | _ n ih =>
    by_cases h : n < 10
    · rw [decN_small h]; simp
    · rw [decN_big h]
      have := ih (n / 10) (by omega)
      simp only [List.length_append, List.length_singleton]
      omega
theorem mstep_fin {code : List Ins} (hc : validP code = true) {m : Mst} (hk : Mok m) {c : Int} {t : List UInt8} {n : Nat} (h : mstep code m = .fin c t n) : 0 ≤ c ∧ c ≤ 3 ∧ t.length ≤ 2000 := by
  have ha := hk.at_
  have hs := hk.steps
  have hd := decN_len' m.at_
  have ht : (top1 m.stk).length ≤ 2000 := top1_len hk.txt
  unfold mstep at h
  split at h
  · injection h with h1 h2 h3
    subst h1 h2
    exact ⟨by decide, by decide, by omega⟩
  · split at h
    · injection h with h1 h2 h3
      subst h1 h2
      exact ⟨by decide, by decide, by simp⟩
    · unfold doIns at h
      dsimp only at h
      split at h
      · injection h with h1 h2 h3
        subst h1 h2
        exact ⟨by decide, by decide, by omega⟩
      · split at h
        · unfold pushM at h
          split at h
          · injection h with h1 h2 h3
            subst h1 h2
            exact ⟨by decide, by decide, by dsimp only; omega⟩
          · cases h
        · unfold moveM at h
          dsimp only at h
          split at h
          · cases h
          split at h
          · cases h
          split at h
          · cases h
          split at h
          · unfold lookM at h
            dsimp only at h
            split at h
            · injection h with h1 h2 h3
              subst h1 h2
              exact ⟨by decide, by decide, by omega⟩
            split at h
            · injection h with h1 h2 h3
              subst h1 h2
              exact ⟨by decide, by decide, by simp⟩
            · cases h
          split at h
          · injection h with h1 h2 h3
            subst h1 h2
            exact ⟨by decide, by decide, ht⟩
          · injection h with h1 h2 h3
            subst h1 h2
            exact ⟨by decide, by decide, ht⟩
def FinOk (o : Out) : Prop := ∀ c t n, o = .fin c t n → 0 ≤ c ∧ c ≤ 5 ∧ t.length ≤ 2000
theorem run_finOk {code : List Ins} (hc : validP code = true) : ∀ (k : Nat) (m : Mst), Mok m → 2001 - m.steps = k → FinOk (run code m)
  | k, m, hk, hm => by
    have hs0 := hk.steps
    rw [run_eq code hs0]
    cases hs : mstep code m with
    | go m2 =>
      have h2 := mstep_go hs
      exact run_finOk hc (2001 - m2.steps) m2 (mstep_ok hc hk hs) rfl
    | look a n m2 => intro c t n h; cases h
    | fin c t n =>
      intro c' t' n' h
      injection h with h1 h2 h3
      subst h1 h2
      have := mstep_fin hc hk hs
      exact ⟨this.1, by omega, this.2.2⟩
termination_by k => k
decreasing_by
  have h2 := mstep_go hs
  omega
def LookAt (k : Nat) (o : Out) : Prop := ∀ a n m, o = .look a n m → Mok m ∧ m.stk.length ≤ 49 ∧ m.at_ < 200 ∧ m.looks = k ∧ nameOk n = true ∧ m.looks ≤ 200
theorem run_lookAt {code : List Ins} (hc : validP code = true) : ∀ (k : Nat) (m : Mst), Mok m → 2001 - m.steps = k → LookAt (m.looks + 1) (run code m)
  | k, m, hk, hm => by
    have hs0 := hk.steps
    rw [run_eq code hs0]
    cases hs : mstep code m with
    | go m2 =>
      have h2 := mstep_go hs
      have := run_lookAt hc (2001 - m2.steps) m2 (mstep_ok hc hk hs) rfl
      rw [h2.2.1] at this
      exact this
    | fin c t n => intro a n m h; cases h
    | look a n m2 =>
      intro a' n' m' h
      injection h with h1 h2 h3
      subst h3 h2
      have h5 := mstep_look hs
      have h4 := look_ok hk hs
      have h6 := hk.looks
      have := validP_len hc
      rw [h5.1] at h4 ⊢
      exact ⟨h4.1, h4.2.1, by dsimp only; omega, rfl, h5.2.2.2.1, by dsimp only; omega⟩
termination_by k => k
decreasing_by
  have h2 := mstep_go hs
  omega
theorem resume_at {code : List Ins} (hc : validP code = true) {a : Bool} {n : List UInt8} {m : Mst} {k : Nat} {r : Rpl} (h : LookAt k (.look a n m)) (hr : replyOk r = true) :
    LookAt (k + 1) (resume code (.look a n m) r) ∧ FinOk (resume code (.look a n m) r) := by
  obtain ⟨h1, h2, h3, h4, h5, h6⟩ := h a n m rfl
  simp only [resume]
  cases ha : answ a n m r with
  | go m2 =>
    have hm := answ_ok h1 h2 h3 hr ha
    have hg := answ_go ha
    refine ⟨?_, run_finOk hc _ m2 hm rfl⟩
    have := run_lookAt hc _ m2 hm rfl
    rw [hg.2, h4] at this
    exact this
  | fin c t n' =>
    refine ⟨fun a n m h => (by cases h), fun c' t' n'' h => ?_⟩
    simp only [runO] at h
    injection h with e1 e2 e3
    subst e1 e2
    unfold answ at ha
    have hn := nameOk_len h5
    split at ha
    · split at ha
      · injection ha with e1 e2 e3
        subst e1 e2
        exact ⟨by decide, by decide, by omega⟩
      · split at ha
        · injection ha with e1 e2 e3
          subst e1 e2
          exact ⟨by decide, by decide, by omega⟩
        · cases ha
    · cases ha
  | look a2 n2 m2 => exact absurd ha answ_nl
theorem idxOf_map {α : Type} (f : α → List UInt8) {l : List α} {n : List UInt8} (h : n ∈ l.map f) : ∃ h' : (l.map f).idxOf n < l.length, f (l[(l.map f).idxOf n]) = n := by
  have hl := List.idxOf_lt_length_iff.2 h
  have h' : (l.map f).idxOf n < l.length := by simpa using hl
  refine ⟨h', ?_⟩
  have := List.getElem_idxOf hl
  rwa [List.getElem_map] at this
theorem souT_at {sp : Spc} {n : List UInt8} (hn : n ∈ sNames sp) : ∃ h : (sNames sp).idxOf n < sp.sources.length, souT sp n = (sp.sources[(sNames sp).idxOf n]).text ∧ (sp.sources[(sNames sp).idxOf n]).name = n := by
  obtain ⟨h, h2⟩ := idxOf_map _ hn
  exact ⟨h, by unfold souT; rw [List.getD_eq_getElem?_getD, show (sp.sources)[(sNames sp).idxOf n]? = some _ from List.getElem?_eq_getElem h]; rfl, h2⟩
theorem tgtA_at {sp : Spc} {n : List UInt8} (hn : n ∈ tNames sp) : ∃ h : (tNames sp).idxOf n < sp.targets.length, tgtA sp n = (sp.targets[(tNames sp).idxOf n]).action ∧ (sp.targets[(tNames sp).idxOf n]).name = n := by
  obtain ⟨h, h2⟩ := idxOf_map _ hn
  exact ⟨h, by unfold tgtA; rw [List.getD_eq_getElem?_getD, show (sp.targets)[(tNames sp).idxOf n]? = some _ from List.getElem?_eq_getElem h]; rfl, h2⟩
theorem souT_ok {sp : Spc} (hsp : checkSpace sp = 0) {n : List UInt8} (hn : n ∈ sNames sp) : (souT sp n).length ≤ 2000 := by
  obtain ⟨h, h1, h2⟩ := souT_at hn
  rw [h1]
  exact (checkSpace_ok hsp).2.2.2.2.2.2.1 _ (List.getElem_mem h)
theorem tgtA_ok {sp : Spc} (hsp : checkSpace sp = 0) {n : List UInt8} (hn : n ∈ tNames sp) : validP (tgtA sp n) = true := by
  obtain ⟨h, h1, h2⟩ := tgtA_at hn
  rw [h1]
  exact (checkSpace_ok hsp).2.2.2.2.2.2.2 _ (List.getElem_mem h)
def RnEnd (sp : Spc) (way : List (List UInt8)) (ds : List Deed) (k : Nat) : Rn → Prop
  | .done c t ds' ls => MkOk sp way ds' ∧ ds <+: ds' ∧ 0 ≤ c ∧ c ≤ 5 ∧ t.length ≤ 2000 ∧ ls.length ≤ 200 ∧ ds'.length + 201 * leftT sp way ds' ≤ ds.length + 201 * leftT sp way ds + k
  | .stop r => StopOk r
theorem runM_ok {sp : Spc} {way : List (List UInt8)} {code : List Ins} {mk : List Deed → List UInt8 → Mk} (hc : validP code = true)
    (hmk : ∀ ds n, MkOk sp way ds → nameOk n = true → MkEnd sp way ds n 1 (mk ds n)) :
    ∀ (f : Nat) (o : Out) (ds : List Deed) (ls : List Lnk), ls.length + f = 200 → LookAt (ls.length + 1) o → FinOk o → (∀ m, o ≠ .go m) → MkOk sp way ds → RnEnd sp way ds f (runM mk sp code f o ds ls)
  | f, .go m, ds, ls, _, _, _, hg, _ => absurd rfl (hg m)
  | f, .fin c t n, ds, ls, hf, _, hfin, _, hk => by
    have := hfin c t n rfl
    rw [runM]
    · exact ⟨hk, List.prefix_refl _, this.1, this.2.1, this.2.2, by omega, by omega⟩
  | 0, .look a n m, ds, ls, hf, hl, _, _, _ => by
    have := hl a n m rfl
    omega
  | f + 1, .look a n m, ds, ls, hf, hl, _, _, hk => by
    have h := hl a n m rfl
    have hng : ∀ r m', resume code (.look a n m) r ≠ .go m' := by
      intro r m'
      simp only [resume]
      cases ha : answ a n m r with
      | go m2 =>
        simp only [runO]
        intro hc'
        by_cases hs : m2.steps ≤ 2000
        · exact run_ng code _ m2 m' rfl hs hc'
        · have hg := answ_go ha
          have := h.1.steps
          omega
      | fin c t n' => simp [runO]
      | look a2 n2 m2 => exact absurd ha answ_nl
    cases a with
    | true =>
      simp only [runM, if_true]
      have hm := hmk ds n hk h.2.2.2.2.1
      cases hmm : mk ds n with
      | stop r => rw [hmm] at hm; exact hm
      | at_ i ds' =>
        rw [hmm] at hm
        obtain ⟨m1, m2, m3, m4, m5⟩ := hm
        have hr : replyOk (replyD (dAt ds' i)) = true := by
          rw [dAt_lt m3]
          exact (m1.fit _ (List.getElem_mem m3)).1
        have h2 := resume_at hc hl hr
        have ih := runM_ok hc hmk f (resume code (.look true n m) (replyD (dAt ds' i))) ds' (ls ++ [⟨n, true, false, i⟩]) (by simp; omega) (by simpa using h2.1) h2.2 (hng _) m1
        dsimp only
        cases hR : runM mk sp code f (resume code (.look true n m) (replyD (dAt ds' i))) ds' (ls ++ [⟨n, true, false, i⟩]) with
        | stop r => rw [hR] at ih; exact ih
        | done c t ds2 ls2 =>
          rw [hR] at ih
          obtain ⟨i1, i2, i3, i4, i5, i6, i7⟩ := ih
          exact ⟨i1, m2.trans i2, i3, i4, i5, i6, by omega⟩
    | false =>
      simp only [runM, Bool.false_eq_true, if_false]
      have hr : replyOk ⟨hasN sp n, 0, []⟩ = true := by simp [replyOk]
      have h2 := resume_at hc hl hr
      have ih := runM_ok hc hmk f (resume code (.look false n m) ⟨hasN sp n, 0, []⟩) ds (ls ++ [⟨n, false, hasN sp n, 0⟩]) (by simp; omega) (by simpa using h2.1) h2.2 (hng _) hk
      cases hR : runM mk sp code f (resume code (.look false n m) ⟨hasN sp n, 0, []⟩) ds (ls ++ [⟨n, false, hasN sp n, 0⟩]) with
      | stop r => rw [hR] at ih; exact ih
      | done c t ds2 ls2 =>
        rw [hR] at ih
        obtain ⟨i1, i2, i3, i4, i5, i6, i7⟩ := ih
        exact ⟨i1, i2, i3, i4, i5, i6, by omega⟩
theorem dAt_app {ds : List Deed} {d : Deed} : dAt (ds ++ [d]) ds.length = d := by simp [dAt, List.getD]
theorem MkOk.put {sp : Spc} {way : List (List UInt8)} {ds : List Deed} {d : Deed} (h : MkOk sp way ds) (h1 : d.name ∉ namesD ds) (h2 : d.name ∉ way) (h3 : replyOk (replyD d) = true) (h4 : nameOk d.name = true) : MkOk sp way (ds ++ [d]) := by
  refine ⟨?_, h.wnd, fun n hn => ⟨(h.wt n hn).1, ?_⟩, fun x hx => ?_⟩
  · simp only [namesD, List.map_append, List.map_cons, List.map_nil]
    exact List.nodup_append.2 ⟨h.nd, by simp, fun a ha b hb hab => by
      simp only [List.mem_singleton] at hb
      exact h1 (by rw [← hb, ← hab]; exact ha)⟩
  · simp only [namesD, List.map_append, List.map_cons, List.map_nil, List.mem_append, List.mem_singleton, not_or]
    exact ⟨(h.wt n hn).2, by rintro rfl; exact h2 hn⟩
  · rcases List.mem_append.1 hx with hx | hx
    · exact h.fit x hx
    · rw [List.mem_singleton.1 hx]
      exact ⟨h3, h4⟩
theorem makeM_ok {sp : Spc} (hsp : checkSpace sp = 0) : ∀ (f : Nat) (way : List (List UInt8)) (ds : List Deed) (n : List UInt8), f + way.length = 61 → way.length ≤ 60 → MkOk sp way ds → nameOk n = true → MkEnd sp way ds n 1 (makeM sp f way ds n)
  | 0, way, ds, n, hf, hw, _, _ => by omega
  | f + 1, way, ds, n, hf, hw, hk, hn => by
    have hnl := nameOk_len hn
    rw [makeM]
    by_cases c1 : n ∈ namesD ds
    · rw [if_pos c1]
      obtain ⟨hlt, hlt2⟩ := idxOf_map _ c1
      refine ⟨hk, List.prefix_refl _, hlt, ?_, by omega⟩
      show (dAt ds ((ds.map (·.name)).idxOf n)).name = n
      rw [dAt_lt hlt]
      exact hlt2
    rw [if_neg c1]
    have hput : ∀ d : Deed, d.name = n → n ∉ way → replyOk (replyD d) = true → MkEnd sp way ds n 1 (.at_ ds.length (ds ++ [d])) := by
      rintro d rfl h2 h3
      have := leftT_put (sp := sp) (way := way) (ds := ds) (d := d)
      exact ⟨hk.put c1 h2 h3 hn, List.prefix_append _ _, by simp, by rw [dAt_app], by simp; omega⟩
    obtain ⟨q1, q2, q3, q4, q5, q6⟩ := checkSpace_ok hsp
    by_cases c2 : n ∈ sNames sp
    · rw [if_pos c2]
      refine hput _ rfl (fun hw => ?_) ?_
      · obtain ⟨h, h1, h2⟩ := souT_at c2
        exact q6.1 _ (List.getElem_mem h) (by rw [h2]; exact (hk.wt n hw).1)
      · have := souT_ok hsp c2
        simp [replyD, replyOk, this]
    rw [if_neg c2]
    by_cases c3 : n ∈ tNames sp
    · rw [if_neg (by simpa using c3)]
      by_cases c4 : n ∈ way
      · rw [if_pos c4]
        refine ⟨.inl rfl, by simp, by simp; omega, fun s hs => ?_⟩
        have hs' := List.mem_of_mem_drop hs
        have ht := (hk.wt s hs').1
        obtain ⟨t, ht1, ht2⟩ := List.mem_map.1 ht
        have := nameOk_len (q3 t ht1)
        rw [← ht2]
        omega
      rw [if_neg c4]
      by_cases c5 : way.length = 60
      · rw [if_pos c5]
        exact ⟨.inr rfl, by dsimp only; omega, by simp, by simp⟩
      rw [if_neg c5]
      have hc := tgtA_ok hsp c3
      have hkw : MkOk sp (way ++ [n]) ds := by
        refine ⟨hk.nd, List.nodup_append.2 ⟨hk.wnd, by simp, fun a ha b hb hab => ?_⟩, fun x hx => ?_, hk.fit⟩
        · simp only [List.mem_singleton] at hb
          exact c4 (by rw [← hb, ← hab]; exact ha)
        · rcases List.mem_append.1 hx with hx | hx
          · exact hk.wt x hx
          · rw [List.mem_singleton.1 hx]
            exact ⟨c3, c1⟩
      have hs := start_ok
      have hR := runM_ok hc (mk := fun ds n' => makeM sp f (way ++ [n]) ds n') (sp := sp) (way := way ++ [n]) (fun ds n' h1 h2 => makeM_ok hsp f (way ++ [n]) ds n' (by simp; omega) (by simp; omega) h1 h2) 200 (run (tgtA sp n) start) ds []
        (by simp) (run_lookAt hc _ start hs rfl) (run_finOk hc _ start hs rfl) (fun m => run_ng _ _ start m rfl hs.steps) hkw
      cases hRR : runM (fun ds n' => makeM sp f (way ++ [n]) ds n') sp (tgtA sp n) 200 (run (tgtA sp n) start) ds [] with
      | stop r => rw [hRR] at hR; exact hR
      | done c t ds' ls =>
        rw [hRR] at hR
        obtain ⟨i1, i2, i3, i4, i5, i6, i7⟩ := hR
        dsimp only
        have hnn : n ∉ namesD ds' := (i1.wt n (by simp)).2
        have hk' : MkOk sp way ds' := ⟨i1.nd, hk.wnd, fun x hx => i1.wt x (by simp [hx]), i1.fit⟩
        have hfit : replyOk (replyD ⟨n, 3, c, t, tgtA sp n, ls⟩) = true := by simp [replyD, replyOk, i3, i5, show c ≤ 7 by omega]
        have l1 := leftT_done (sp := sp) (way := way) (ds := ds') (d := ⟨n, 3, c, t, tgtA sp n, ls⟩)
        have l2 := leftT_way (sp := sp) (way := way) (ds := ds) c3 c1 c4
        refine ⟨hk'.put hnn c4 hfit hn, i2.trans (List.prefix_append _ _), by simp, by rw [dAt_app], ?_⟩
        simp only [List.length_append, List.length_singleton] at l1 ⊢
        omega
    · rw [if_pos (by simpa using c3)]
      exact hput _ rfl (fun hw => c3 (hk.wt n hw).1) (by simp [replyD, replyOk])
end Go.Am
namespace Go.Am
open Go
theorem rpl_ok {r : Rpl} (h : replyOk r = true) : r.ok := by
  simp only [replyOk, Bool.and_eq_true, decide_eq_true_eq] at h
  obtain ⟨⟨h1, h2⟩, h3⟩ := h
  exact ⟨⟨by omega, by omega⟩, by unfold okS; omega⟩
end Go.Am
namespace Go.Proofs.YtephpieeibcihaaGreatDoor
open Go Go.Am Go.Proofs
set_option maxRecDepth 20000
variable {ng : Nat}
theorem reply_ac {own : Bool} {x : Deed} {c : List Value} {F : List Nat} {H : Heap} (hx : DeedR own H x c F) : AC Tryz.prog ng 134 [.agg c.toArray] H fun v S' => v = .agg (replyD x).c.toArray ∧ S' = H := by
  obtain ⟨hk, s1, s2, G1, G2, rfl, rfl, hc1, hc2⟩ := hx
  obtain ⟨a1, z1, rfl⟩ := hc1.form
  obtain ⟨a2, z2, rfl⟩ := hc2.form
  refine .flat (AC.go [] Tryz.func134 rfl Tryz.ntmps134 rfl ⟨mixed, by kernel_rfl⟩ ?_)
  simp +contextual (dsimp := false) [replyD, Rpl.c]
end Go.Proofs.YtephpieeibcihaaGreatDoor

import Derived.Test.YtephpieeibcihaaGreatDoorByt
import Derived.Test.YtephpieeibcihaaGreatDoorAcc
import Derived.Test.YtephpieeibcihaaGreatDoorMch
import Derived.Test.YtephpieeibcihaaGreatDoorNxt
import Derived.Test.YtephpieeibcihaaGreatDoorSpX
import Derived.Test.YtephpieeibcihaaGreatDoorAccN
/- Writing accounts: what is written. No condition. -/
set_option linter.unusedSimpArgs false
set_option linter.unusedVariables false
namespace Go.Am
open Go
theorem accOk_len' {ds : List Deed} (h : accOk ds = true) : ds.length ≤ 400 ∧ 1 ≤ ds.length := by
  simp only [accOk, decide_eq_true_eq] at h
  unfold checkAcc at h
  split at h
  · cases h
  · omega
theorem accOk_deeds' {ds : List Deed} (h : accOk ds = true) : ∀ i, i < ds.length → deedOk ds i (dAt ds i) = true := by
  simp only [accOk, decide_eq_true_eq] at h
  unfold checkAcc at h
  split at h
  · cases h
  · split at h
    · cases h
    · rename_i hn
      intro i hi
      have := firstI_no hn i hi
      simpa using this
theorem deed_parts {ds : List Deed} {i : Nat} {d : Deed} (h : deedOk ds i d = true) : d.name.length ≤ 60 ∧ d.text.length ≤ 2000 ∧ (d.kind = 1 ∨ d.kind = 2 ∨ (d.kind = 3 ∧ 0 ≤ d.code ∧ d.code ≤ 5 ∧ validP d.action = true ∧ d.links.length ≤ 200 ∧ ∀ l ∈ d.links, l.name.length ≤ 60 ∧ (l.ask = true → 0 ≤ l.at_ ∧ l.at_ < i))) := by
  simp only [deedOk, Bool.and_eq_true, decide_eq_true_eq] at h
  obtain ⟨⟨h1, h2⟩, h3⟩ := h
  refine ⟨?_, h2, ?_⟩
  · simp only [nameOk, Bool.and_eq_true, decide_eq_true_eq] at h1
    exact h1.1.2
  by_cases k1 : d.kind = 1
  · exact .inl k1
  rw [if_neg k1] at h3
  by_cases k2 : d.kind = 2
  · exact .inr (.inl k2)
  rw [if_neg k2] at h3
  by_cases k3 : d.kind = 3
  · rw [if_pos k3] at h3
    simp only [Bool.and_eq_true, decide_eq_true_eq] at h3
    obtain ⟨⟨⟨⟨a1, a2⟩, a3⟩, a4⟩, a5⟩ := h3
    refine .inr (.inr ⟨k3, a1, a2, a3, a4, fun l hl => ?_⟩)
    have hl' := List.all_eq_true.1 a5 l hl
    simp only [linkOk, Bool.and_eq_true] at hl'
    obtain ⟨b1, b2⟩ := hl'
    refine ⟨?_, fun ha => ?_⟩
    · simp only [nameOk, Bool.and_eq_true, decide_eq_true_eq] at b1
      exact b1.1.2
    · rw [ha] at b2
      simp at b2
      exact ⟨b2.1.1.2, b2.1.2⟩
  · rw [if_neg k3] at h3
    cases h3
end Go.Am

/- Following an account: what is computed. No condition. -/
set_option linter.unusedSimpArgs false
set_option linter.unusedVariables false
namespace Go.Am
open Go
/-- What a deed answers to who asks for it. -/
def replyD (d : Deed) : Rpl := ⟨decide (d.kind ≠ 2), d.code, d.text⟩
/-- What a link answers. -/
def ansL (ds : List Deed) (l : Lnk) : Rpl := if l.ask then replyD (dAt ds l.at_.toNat) else ⟨l.has, 0, []⟩
/-- A run, its looks held against links. -/
def folO (code : List Ins) (f : Lnk → Rpl) : Out → List Lnk → Option Out
  | o, [] => some o
  | .look a n m, l :: ls => if n = l.name ∧ a = l.ask then folO code f (resume code (.look a n m) (f l)) ls else none
  | .fin _ _ _, _ :: _ => none
  | .go _, _ :: _ => none
def folE (d : Deed) : Option Out → Int
  | some (.fin c t _) => if c ≠ d.code ∨ t ≠ d.text then 5 else 0
  | _ => 4
/-- 0, 4 or 5. -/
def folD (ds : List Deed) (d : Deed) : Int :=
  if d.kind = 3 then folE d (folO d.action (ansL ds) (run d.action start) d.links) else 0
theorem nextO_app (code : List Ins) (l : List Rpl) (r : Rpl) : nextO code (l ++ [r]) = resume code (nextO code l) r := by
  unfold nextO
  rw [List.foldl_append]
  rfl
/-- One look further. -/
theorem folO_s {code : List Ins} {f : Lnk → Rpl} {ls : List Lnk} {k : Nat} (h : k < ls.length) {a : Bool} {n : List UInt8} {m : Mst} (ho : nextO code ((ls.take k).map f) = .look a n m) :
    folO code f (nextO code ((ls.take k).map f)) (ls.drop k) = if n = ls[k].name ∧ a = ls[k].ask then folO code f (nextO code ((ls.take (k + 1)).map f)) (ls.drop (k + 1)) else none := by
  rw [List.drop_eq_getElem_cons h, List.take_succ_eq_append_getElem h, List.map_append, List.map_singleton, nextO_app, ho, folO]
theorem folO_fin {code : List Ins} {f : Lnk → Rpl} {ls : List Lnk} {k : Nat} (h : k < ls.length) {c : Int} {t : List UInt8} {n : Nat} (ho : nextO code ((ls.take k).map f) = .fin c t n) :
    folO code f (nextO code ((ls.take k).map f)) (ls.drop k) = none := by
  rw [List.drop_eq_getElem_cons h, ho, folO]
theorem folO_0 {code : List Ins} {f : Lnk → Rpl} {ls : List Lnk} : folO code f (nextO code ((ls.take 0).map f)) (ls.drop 0) = folO code f (run code start) ls := by
  simp [nextO]
/-- What is answered in a valid account is a fit reply. -/
theorem replyD_ok {ds : List Deed} {i : Nat} {d : Deed} (h : deedOk ds i d = true) : replyOk (replyD d) = true := by
  have h0 := h
  obtain ⟨h1, h2, h3⟩ := deed_parts h
  simp only [deedOk, Bool.and_eq_true, decide_eq_true_eq] at h0
  obtain ⟨_, h4⟩ := h0
  have hc : 0 ≤ d.code ∧ d.code ≤ 5 := by
    rcases h3 with h3 | h3 | ⟨h3, h5, h6, _⟩
    · rw [if_pos h3] at h4
      simp only [plainD, Bool.and_eq_true, decide_eq_true_eq] at h4
      omega
    · rw [if_neg (by omega), if_pos h3] at h4
      simp only [plainD, Bool.and_eq_true, decide_eq_true_eq] at h4
      omega
    · exact ⟨h5, h6⟩
  have h7 : d.code ≤ 7 := by omega
  simp [replyD, replyOk, h2, hc.1, h7]
theorem ansL_ok {ds : List Deed} (h : ∀ i, i < ds.length → deedOk ds i (dAt ds i) = true) {i : Nat} (hi : i ≤ ds.length) {l : Lnk} (hl : l.ask = true → 0 ≤ l.at_ ∧ l.at_ < i) : replyOk (ansL ds l) = true := by
  unfold ansL
  split
  · rename_i ha
    have := hl ha
    exact replyD_ok (h l.at_.toNat (by omega))
  · simp [replyOk]
/-- The document's answer of a link. -/
def ansS (d : Deed) : Rpl := if d.kind = 1 then ⟨true, 0, d.text⟩ else if d.kind = 3 then ⟨true, d.code, d.text⟩ else ⟨false, 0, []⟩
theorem ansS_eq {ds : List Deed} {i : Nat} {d : Deed} (h : deedOk ds i d = true) : ansS d = replyD d := by
  have h0 := h
  obtain ⟨h1, h2, h3⟩ := deed_parts h
  simp only [deedOk, Bool.and_eq_true, decide_eq_true_eq] at h0
  obtain ⟨_, h4⟩ := h0
  unfold ansS replyD
  rcases h3 with h3 | h3 | ⟨h3, h5, h6, _⟩
  · rw [if_pos h3] at h4
    simp only [plainD, Bool.and_eq_true, decide_eq_true_eq] at h4
    simp [h3, h4.1.1]
  · rw [if_neg (by omega), if_pos h3] at h4
    simp only [plainD, Bool.and_eq_true, decide_eq_true_eq] at h4
    simp [h3, h4.1.1.1, h4.2]
  · simp [h3]
end Go.Am

/- Making: what is made, how much it can be. No condition. -/
set_option linter.unusedSimpArgs false
set_option linter.unusedVariables false
namespace Go.Am
open Go
/-- Does something lie or is something made under a name? -/
def hasN (sp : Spc) (n : List UInt8) : Bool := decide (n ∈ sNames sp) || decide (n ∈ tNames sp)
def souT (sp : Spc) (n : List UInt8) : List UInt8 := (sp.sources.getD ((sNames sp).idxOf n) Sou.zero).text
def tgtA (sp : Spc) (n : List UInt8) : List Ins := (sp.targets.getD ((tNames sp).idxOf n) Tgt.zero).action
def namesD (ds : List Deed) : List (List UInt8) := ds.map (·.name)
/-- A making's end: a place among deeds, or a stop. -/
inductive Mk
  | at_ (i : Nat) (ds : List Deed)
  | stop (r : Res)
/-- A run's end. -/
inductive Rn
  | done (c : Int) (t : List UInt8) (ds : List Deed) (ls : List Lnk)
  | stop (r : Res)
/-- What holds of what is made, and of what is being made. -/
structure MkOk (sp : Spc) (way : List (List UInt8)) (ds : List Deed) : Prop where
  nd : (namesD ds).Nodup
  wnd : way.Nodup
  wt : ∀ n ∈ way, n ∈ tNames sp ∧ n ∉ namesD ds
  fit : ∀ d ∈ ds, replyOk (replyD d) = true ∧ nameOk d.name = true
/-- The space is a valid one. -/
theorem idxOf_map {α : Type} (f : α → List UInt8) {l : List α} {n : List UInt8} (h : n ∈ l.map f) : ∃ h' : (l.map f).idxOf n < l.length, f (l[(l.map f).idxOf n]) = n := by
  have hl := List.idxOf_lt_length_iff.2 h
  have h' : (l.map f).idxOf n < l.length := by simpa using hl
  refine ⟨h', ?_⟩
  have := List.getElem_idxOf hl
  rwa [List.getElem_map] at this
theorem souT_at {sp : Spc} {n : List UInt8} (hn : n ∈ sNames sp) : ∃ h : (sNames sp).idxOf n < sp.sources.length, souT sp n = (sp.sources[(sNames sp).idxOf n]).text ∧ (sp.sources[(sNames sp).idxOf n]).name = n := by
  obtain ⟨h, h2⟩ := idxOf_map _ hn
  exact ⟨h, by unfold souT; rw [List.getD_eq_getElem?_getD, show (sp.sources)[(sNames sp).idxOf n]? = some _ from List.getElem?_eq_getElem h]; rfl, h2⟩
theorem tgtA_at {sp : Spc} {n : List UInt8} (hn : n ∈ tNames sp) : ∃ h : (tNames sp).idxOf n < sp.targets.length, tgtA sp n = (sp.targets[(tNames sp).idxOf n]).action ∧ (sp.targets[(tNames sp).idxOf n]).name = n := by
  obtain ⟨h, h2⟩ := idxOf_map _ hn
  exact ⟨h, by unfold tgtA; rw [List.getD_eq_getElem?_getD, show (sp.targets)[(tNames sp).idxOf n]? = some _ from List.getElem?_eq_getElem h]; rfl, h2⟩
theorem MkOk.put {sp : Spc} {way : List (List UInt8)} {ds : List Deed} {d : Deed} (h : MkOk sp way ds) (h1 : d.name ∉ namesD ds) (h2 : d.name ∉ way) (h3 : replyOk (replyD d) = true) (h4 : nameOk d.name = true) : MkOk sp way (ds ++ [d]) := by
  refine ⟨?_, h.wnd, fun n hn => ⟨(h.wt n hn).1, ?_⟩, fun x hx => ?_⟩
  · simp only [namesD, List.map_append, List.map_cons, List.map_nil]
    exact List.nodup_append.2 ⟨h.nd, by simp, fun a ha b hb hab => by
      simp only [List.mem_singleton] at hb
      exact h1 (by rw [← hb, ← hab]; exact ha)⟩
  · simp only [namesD, List.map_append, List.map_cons, List.map_nil, List.mem_append, List.mem_singleton, not_or]
    exact ⟨(h.wt n hn).2, by rintro rfl; exact h2 hn⟩
  · rcases List.mem_append.1 hx with hx | hx
    · exact h.fit x hx
    · rw [List.mem_singleton.1 hx]
      exact ⟨h3, h4⟩
end Go.Am

/- Following an account: the walks. No condition. -/
set_option linter.unusedSimpArgs false
set_option linter.unusedVariables false
namespace Go.Am
open Go
theorem rpl_ok {r : Rpl} (h : replyOk r = true) : r.ok := by
  simp only [replyOk, Bool.and_eq_true, decide_eq_true_eq] at h
  obtain ⟨⟨h1, h2⟩, h3⟩ := h
  exact ⟨⟨by omega, by omega⟩, by unfold okS; omega⟩
theorem run_steps {code : List Ins} : ∀ (k : Nat) (m : Mst), m.steps ≤ 2000 → 2001 - m.steps = k → ∀ a n m', run code m = .look a n m' → m'.steps ≤ 2000
  | k, m, hs0, hm => by
    rw [run_eq code hs0]
    cases hs : mstep code m with
    | go m2 =>
      have h2 := mstep_go hs
      exact run_steps (2001 - m2.steps) m2 (by omega) rfl
    | fin c t n => intro a n m h; cases h
    | look a n m2 =>
      intro a' n' m' h
      injection h with h1 h2 h3
      subst h3
      have h5 := mstep_look hs
      rw [h5.1]
      dsimp only
      omega
termination_by k => k
decreasing_by
  have h2 := mstep_go hs
  omega
theorem nextO_ng {code : List Ins} (rs : List Rpl) : ∀ m : Mst, nextO code rs ≠ .go m := by
  have hres : ∀ (rs : List Rpl) (o : Out), (∀ m, o ≠ .go m) → (∀ a n m, o = .look a n m → m.steps ≤ 2000) → ∀ m, rs.foldl (resume code) o ≠ .go m := by
    intro rs
    induction rs with
    | nil => intro o h1 h2; exact h1
    | cons r rs ih =>
      intro o h1 h2
      rw [List.foldl_cons]
      cases o with
      | go m => exact absurd rfl (h1 m)
      | fin c t n => exact ih _ (by simp [resume]) (by simp [resume])
      | look a n m =>
        have hs := h2 a n m rfl
        simp only [resume]
        cases ha : answ a n m r with
        | go m2 =>
          have hg := answ_go ha
          exact ih _ (fun m' => run_ng code _ m2 m' rfl (by omega)) (run_steps _ m2 (by omega) rfl)
        | fin c t n' => exact ih _ (by simp [runO]) (by simp [runO])
        | look a2 n2 m2 => exact absurd ha answ_nl
  exact hres rs _ (fun m' => run_ng code _ _ m' rfl start_ok.steps) (run_steps _ _ start_ok.steps rfl)
end Go.Am
namespace Go.Proofs.YtephpieeibcihaaGreatDoor
open Go Go.Am Go.Proofs
set_option maxRecDepth 20000
variable {ng : Nat}
theorem reply_ac {own : Bool} {x : Deed} {c : List Value} {F : List Nat} {H : Heap} (hx : DeedR own H x c F) : AC Tryz.prog ng 134 [.agg c.toArray] H fun v S' => v = .agg (replyD x).c.toArray ∧ S' = H := by
  obtain ⟨hk, s1, s2, G1, G2, rfl, rfl, hc1, hc2⟩ := hx
  obtain ⟨a1, z1, rfl⟩ := hc1.form
  obtain ⟨a2, z2, rfl⟩ := hc2.form
  refine .flat (AC.go [] Tryz.func134 rfl Tryz.ntmps134 rfl ⟨mixed, by kernel_rfl⟩ ?_)
  simp +contextual (dsimp := false) [replyD, Rpl.c]
theorem l4Answer_ac {own : Bool} {ds : List Deed} {sd : Value} {FD : List Nat} {H : Heap} (hs : DeedsR own H ds [sd] FD) (l : Lnk) (i : Nat) (hok : ∀ i, i < ds.length → deedOk ds i (dAt ds i) = true) (hi : i ≤ ds.length) (hl : l.ask = true → 0 ≤ l.at_ ∧ l.at_ < i) :
    AC Tryz.prog ng 118 [.agg #[sd], .agg l.c.toArray] H fun v S' => v = .agg (ansL ds l).c.toArray ∧ S' = H := by
  obtain ⟨ad, zd, rfl⟩ := hs.form
  obtain ⟨ln, la, lh, lt⟩ := l
  refine .flat (AC.go [] Tryz.func118 rfl Tryz.ntmps118 rfl ⟨mixed, by kernel_rfl⟩ ?_)
  unfold ansL
  cases la with
  | false => simp +contextual (dsimp := false) [Lnk.c, Rpl.c]
  | true =>
    have h0 := hl rfl
    dsimp only at h0
    obtain ⟨n, rfl⟩ : ∃ n : Nat, lt = n := ⟨lt.toNat, by omega⟩
    have hn : n < ds.length := by omega
    simp only [Int.toNat_natCast, if_true]
    rw [← ansS_eq (hok n hn), dAt_lt hn]
    simp +contextual (dsimp := false) [Lnk.c]
    obtain ⟨id, o, c, e, f, ow, cs, Fi, E⟩ := SlR.get hs n hn
    obtain ⟨hk, s1, s2, G1, G2, rfl, hFi, hc1, hc2⟩ := E.rep
    obtain ⟨a1, z1, rfl⟩ := hc1.form
    obtain ⟨a2, z2, rfl⟩ := hc2.form
    simp +contextual (dsimp := false) [E.idx, E.goB, E.le, E.lt, E.ext]
    refine ifA_dec (fun h1 => ?_) (fun h1 => ?_)
    · simp [ansS, h1, Rpl.c]
    refine ifA_dec (fun h2 => ?_) (fun h2 => ?_)
    · simp [ansS, h1, h2, Rpl.c]
    · simp [ansS, h1, h2, Rpl.c]
theorem l4Run_ac {own : Bool} {ds : List Deed} {sd : Value} {FD : List Nat} {H : Heap} (hs : DeedsR own H ds [sd] FD) (hok : ∀ i, i < ds.length → deedOk ds i (dAt ds i) = true) (i : Nat) (hi : i < ds.length) (hk3 : ds[i].kind = 3) :
    AC Tryz.prog ng 78 [.agg #[sd], int i] H fun v S' => v = int (folD ds ds[i]) ∧ S' = H := by
  obtain ⟨ad, zd, rfl⟩ := hs.form
  refine .flat (AC.go [] Tryz.func78 rfl Tryz.ntmps78 rfl ⟨mixed, by kernel_rfl⟩ ?_)
  have hd := hok i hi
  rw [dAt_lt hi] at hd
  obtain ⟨d1, d2, d3⟩ := deed_parts hd
  obtain ⟨_, d4, d5, hv, d7, d8⟩ : ds[i].kind = 3 ∧ 0 ≤ ds[i].code ∧ ds[i].code ≤ 5 ∧ validP ds[i].action = true ∧ ds[i].links.length ≤ 200 ∧ ∀ l ∈ ds[i].links, l.name.length ≤ 60 ∧ (l.ask = true → 0 ≤ l.at_ ∧ l.at_ < i) := by
    rcases d3 with h | h | h
    · omega
    · omega
    · exact h
  simp +contextual (dsimp := false)
  obtain ⟨id, o, c, e, f, ow, cs, Fi, E⟩ := SlR.get hs i hi
  obtain ⟨hk, s1, s2, G1, G2, rfl, hFi, hc1, hc2⟩ := E.rep
  obtain ⟨a1, z1, rfl⟩ := hc1.form
  obtain ⟨a2, z2, rfl⟩ := hc2.form
  simp +contextual (dsimp := false) [E.idx, E.goB, E.le, E.lt, E.ext]
  refine LoopA.up (σ := Nat × Heap × Value × List Nat) [2, 5, 6] (fun x => [(6, x.2.2.1)]) (fun x => x.2.1)
    (fun x => x.1 ≤ ds[i].links.length ∧ H.length + 2 ≤ x.2.1.length ∧ (∀ j, j < H.length + 2 → x.2.1[j]? = (H ++ [(⟨.cells #[.slice ad ds.length zd] 58 (0, 0), true, true⟩ : Blk), ⟨.cells #[str ds[i].name, int ds[i].kind, int ds[i].code, str ds[i].text, .slice a1 ds[i].action.length z1, .slice a2 ds[i].links.length z2] 82 (0, 0), true, true⟩])[j]?) ∧ RplsR true x.2.1 ((ds[i].links.take x.1).map (ansL ds)) [x.2.2.1] x.2.2.2 ∧ Fresh (H.length + 2) x.2.2.2 ∧
      folO ds[i].action (ansL ds) (nextO ds[i].action ((ds[i].links.take x.1).map (ansL ds))) (ds[i].links.drop x.1) = folO ds[i].action (ansL ds) (run ds[i].action Am.start) ds[i].links)
    (fun x => ds[i].links.length + 1 - x.1) (0, _, _, [H.length + 2]) rfl ⟨by simp, by simp, fun j hj => ?_, SlR.mt (e := 185) (f := (0, 0)) (by simp), Fresh.one (Nat.le_refl _), folO_0⟩ ?_
  · rw [List.getElem?_append, List.getElem?_append]
    split
    · rfl
    · rcases (show j - H.length = 0 ∨ j - H.length = 1 by omega) with h | h <;> rw [h] <;> rfl
  rintro ⟨k, hp, sv, FB⟩ ⟨gk, gl, gx, gr, gf, go⟩
  dsimp only at gk gl gx gr gf go
  have e0 := (gx H.length (by omega)).trans (by simp : (H ++ [(⟨.cells #[.slice ad ds.length zd] 58 (0, 0), true, true⟩ : Blk), ⟨.cells #[str ds[i].name, int ds[i].kind, int ds[i].code, str ds[i].text, .slice a1 ds[i].action.length z1, .slice a2 ds[i].links.length z2] 82 (0, 0), true, true⟩])[H.length]? = some (⟨.cells #[.slice ad ds.length zd] 58 (0, 0), true, true⟩ : Blk))
  have e1 := (gx (H.length + 1) (by omega)).trans (by simp : (H ++ [(⟨.cells #[.slice ad ds.length zd] 58 (0, 0), true, true⟩ : Blk), ⟨.cells #[str ds[i].name, int ds[i].kind, int ds[i].code, str ds[i].text, .slice a1 ds[i].action.length z1, .slice a2 ds[i].links.length z2] 82 (0, 0), true, true⟩])[H.length + 1]? = some (⟨.cells #[str ds[i].name, int ds[i].kind, int ds[i].code, str ds[i].text, .slice a1 ds[i].action.length z1, .slice a2 ds[i].links.length z2] 82 (0, 0), true, true⟩ : Blk))
  have hex : Ext H hp := fun j hj => (gx j (by omega)).trans (get_ext hj)
  have hlen : ((ds[i].links.take k).map (ansL ds)).length = k := by simp; omega
  generalize hrs : (ds[i].links.take k).map (ansL ds) = rs at gr go hlen
  have hrok : nextOk ds[i].action rs = true := by
    simp only [nextOk, Bool.and_eq_true, decide_eq_true_eq]
    refine ⟨⟨hv, by omega⟩, List.all_eq_true.2 fun r hr => ?_⟩
    rw [← hrs] at hr
    obtain ⟨l, hl, rfl⟩ := List.mem_map.1 hr
    exact ansL_ok hok (Nat.le_of_lt hi) (d8 l (List.mem_of_mem_take hl)).2
  obtain ⟨ar, zr, rfl⟩ := gr.form
  have gr' := gr
  rw [hlen] at gr'
  simp +contextual (dsimp := false) [goB_of e1, e1]
  refine CallK.fl ⟨_, Tryz.func117, rfl, rfl⟩ (specNext_ac (Rp.ext hc1 hex) gr) ?_
  have hnx : next ds[i].action rs = turnOf (nextO ds[i].action rs) := by simp [next, hrok]
  rw [hnx]
  generalize ho : nextO ds[i].action rs = o at go
  have e1T : ∀ T : Heap, (hp ++ T)[H.length + 1]? = _ := fun T => (List.getElem?_append_left (by omega)).trans e1
  have e0T : ∀ T : Heap, (hp ++ T)[H.length]? = _ := fun T => (List.getElem?_append_left (by omega)).trans e0
  have hfd : folD ds ds[i] = folE ds[i] (folO ds[i].action (ansL ds) o (ds[i].links.drop k)) := by
    unfold folD
    rw [if_pos hk3, ← go]
  have hexT : ∀ T : Heap, Ext H (hp ++ T) := fun T => hex.trans (Ext.app _ _)
  cases o with
  | go m => exact absurd ho (nextO_ng rs m)
  | fin cc tx n =>
    simp +contextual (dsimp := false) [turnOf, Trn.c, e1T, hlen]
    refine ifA_dec (fun h7 => ?_) (fun h7 => ?_)
    · rw [hfd, ← ho, ← hrs, folO_fin h7 (by rw [hrs]; exact ho)]
      exact ⟨rfl, hexT _⟩
    · rw [hfd, List.drop_of_length_le (by omega), folO]
      simp only [folE]
      refine ifA_dec (fun h8 => ?_) (fun h8 => ?_)
      · refine ifA_dec (fun h9 => ?_) (fun h9 => ?_)
        · rw [if_neg (by simp [h8, h9])]
          exact ⟨rfl, hexT _⟩
        · rw [if_pos (.inr h9)]
          exact ⟨rfl, hexT _⟩
      · rw [if_pos (.inl h8)]
        exact ⟨rfl, hexT _⟩
  | look a nm m =>
    simp +contextual (dsimp := false) [turnOf, Trn.c, e1T, hlen]
    refine ifA_dec (fun h7 => ?_) (fun h7 => ?_)
    · rw [hfd, List.drop_of_length_le (by omega), folO]
      exact ⟨rfl, hexT _⟩
    · have h8 : k < ds[i].links.length := by omega
      obtain ⟨id5, o5, c5, e5, f5, ow5, cs5, Fi5, E5⟩ := SlR.get (Rp.ext hc2 hex) k h8
      obtain ⟨rfl, rfl, hok5⟩ := E5.rep
      have hstep := folO_s h8 (f := ansL ds) (code := ds[i].action) (a := a) (n := nm) (m := m) (by rw [hrs]; exact ho)
      rw [hrs, ho] at hstep
      have hc0 := E5.cell0 (by omega)
      have hc1' := E5.cell 1 (by omega)
      simp +contextual (dsimp := false) [h7, E5.idx, E5.goB, E5.le, E5.lt, E5.ext, Lnk.c, e1T, bin_bneq und4, hc0, hc1']
      refine ifA_dec (fun h9 => ?_) (fun h9 => ?_)
      · refine ifA_dec (fun h10 => ?_) (fun h10 => ?_)
        · rw [if_pos ⟨h9.symm, h10.symm⟩] at hstep
          simp +contextual (dsimp := false) [e0T, e1T, E5.idx, E5.goB, E5.le, E5.lt, E5.ext, Lnk.c]
          refine CallK.fl ⟨_, Tryz.func118, rfl, rfl⟩ (l4Answer_ac (Rp.ext hs (hexT _)) ds[i].links[k] i hok (Nat.le_of_lt hi) (d8 _ (List.getElem_mem h8)).2) ?_
          have hrk := ansL_ok hok (Nat.le_of_lt hi) (d8 _ (List.getElem_mem h8)).2
          simp +contextual (dsimp := false) [Rpl.c]
          refine AppK.one (R := RplR) (l := rs) (ex := 185) (fx := (0, 0)) (ox := true) (base := H.length + 2) (x := ansL ds ds[i].links[k]) (cx := (ansL ds ds[i].links[k]).c) (Fx := []) slt180 und180 (Rp.ext gr' (Ext.app _ _)) gf (by simp [Rpl.c]) ⟨rfl, rfl, rpl_ok hrk⟩ (Fresh.nil _) (by simp) (by simp; omega) (by omega) (by decide) ?_
          intro s2 H2 F2 q1 q2 q3 q4 q5
          simp only [List.length_append, List.length_cons, List.length_nil] at q3 q4
          have hnb : ∀ j, j < H.length + 2 → j ∉ FB := fun j hj hm => by have := gf.1 j hm; omega
          simp +contextual (dsimp := false)
          refine LoopN.of (k + 1, H2, s2, F2) rfl ⟨h8, by dsimp only; omega, fun j hj => ?_, ?_, q2, ?_⟩ (by dsimp only; omega)
          · exact (q4 j (by omega) (hnb j hj)).trans ((List.getElem?_append_left (by omega)).trans (gx j hj))
          · dsimp only
            rw [List.take_succ_eq_append_getElem h8, List.map_append, hrs]
            exact q1
          · dsimp only
            rw [← hstep]
            exact go
        · rw [if_neg (fun h => h10 h.2.symm)] at hstep
          rw [hfd, hstep]
          exact ⟨rfl, hexT _⟩
      · rw [if_neg (fun h => h9 h.1.symm)] at hstep
        rw [hfd, hstep]
        exact ⟨rfl, hexT _⟩
set_option maxHeartbeats 2000000 in
theorem follows_ac {own : Bool} {ds : List Deed} {sd : Value} {FD : List Nat} {H : Heap} (hs : DeedsR own H ds [sd] FD) (hok : ∀ i, i < ds.length → deedOk ds i (dAt ds i) = true) (i : Nat) (hi : i < ds.length) {c : List Value} {F : List Nat} (hx : DeedR own H ds[i] c F)
    (hP : P10 g10 H) (h2 : g10 < ng) :
    AC Tryz.prog ng 123 [.agg c.toArray, .agg #[sd]] H fun v S' => v = int (folD ds ds[i]) ∧ S' = H := by
  obtain ⟨ad, zd, rfl⟩ := hs.form
  obtain ⟨hk, s1, s2, G1, G2, rfl, rfl, hc1, hc2⟩ := hx
  obtain ⟨a1, z1, rfl⟩ := hc1.form
  obtain ⟨a2, z2, rfl⟩ := hc2.form
  refine .flat (AC.go [] Tryz.func123 rfl Tryz.ntmps123 rfl ⟨mixed, by kernel_rfl⟩ ?_)
  by_cases hk3 : ds[i].kind = 3
  · have hd := hok i hi
    rw [dAt_lt hi] at hd
    obtain ⟨d1, d2, d3⟩ := deed_parts hd
    obtain ⟨_, d4, d5, hv, d7, d8⟩ : ds[i].kind = 3 ∧ 0 ≤ ds[i].code ∧ ds[i].code ≤ 5 ∧ validP ds[i].action = true ∧ ds[i].links.length ≤ 200 ∧ ∀ l ∈ ds[i].links, l.name.length ≤ 60 ∧ (l.ask = true → 0 ≤ l.at_ ∧ l.at_ < i) := by
      rcases d3 with h | h | h
      · omega
      · omega
      · exact h
    simp +contextual (dsimp := false) [hk3]
    obtain ⟨H1, hH1⟩ : ∃ H1, H1 = H ++ [(⟨.cells #[str ds[i].name, int 3, int ds[i].code, str ds[i].text, .slice a1 ds[i].action.length z1, .slice a2 ds[i].links.length z2] 82 (0, 0), true, true⟩ : Blk), ⟨.cells #[.slice ad ds.length zd] 58 (0, 0), true, true⟩, ⟨.cells #[.slice a1 ds[i].action.length z1, .slice none 0 0, .int .i64 0, .int .i64 0, .int .i64 0, .bool false, .int .i64 0, .string ⟨⟨[]⟩⟩, .bool false, .string ⟨⟨[]⟩⟩, .int .i64 0] 204 (0, 0), true, true⟩] := ⟨_, rfl⟩
    have hl1 : H1.length = H.length + 3 := by rw [hH1]; simp
    have hx1 : Ext H H1 := by rw [hH1]; exact Ext.app _ _
    have b0 : H1[H.length]? = some ⟨.cells #[str ds[i].name, int 3, int ds[i].code, str ds[i].text, .slice a1 ds[i].action.length z1, .slice a2 ds[i].links.length z2] 82 (0, 0), true, true⟩ := by rw [hH1]; simp
    have b1 : H1[H.length + 1]? = some ⟨.cells #[.slice ad ds.length zd] 58 (0, 0), true, true⟩ := by rw [hH1]; simp
    have hm1 : MacR 204 H1 (H.length + 2) (.slice a1 ds[i].action.length z1) Am.start ⟨false, 0, [], false, [], 0⟩ [] := ⟨.slice none 0 0, by rw [hH1]; simp [macC, Am.start], SlR.nil, by simp, by simp⟩
    rw [← hH1]
    clear hH1
    have hgl : g10 < H.length := by
      obtain ⟨_, _, hh⟩ := hP
      exact (List.getElem?_eq_some_iff.1 hh).1
    have hn1 : NeedM own H1 (H.length + 2) (.slice a1 ds[i].action.length z1) ds[i].action [] G1 := ⟨Rp.ext hc1 hx1, fun hm => by have := Rp.lt hc1 _ hm; omega, by simp, hP.ext hx1, by omega, by simp⟩
    refine CallK.of ⟨_, Tryz.func133, rfl, rfl⟩ (run_ac hm1 hn1 hv start_ok h2) ?_
    rintro v S1 ⟨rfl, hE⟩
    have hb0 : ∀ o S, EndM 204 H1 (H.length + 2) (.slice a1 ds[i].action.length z1) [] o S → (∀ j, j < H1.length → j ≠ H.length + 2 → S[j]? = H1[j]?) ∧ H1.length ≤ S.length := by
      intro o S h
      cases o with
      | go m => exact absurd h id
      | fin c t n =>
        obtain ⟨m', F', hm, hf⟩ := h
        exact ⟨fun j hj hne => hf.2.1 j hj hne (by simp), hf.1⟩
      | look a nm m =>
        obtain ⟨F', hm, hf⟩ := h
        exact ⟨fun j hj hne => hf.2.1 j hj hne (by simp), hf.1⟩
    have q0 := (hb0 _ _ hE).1 H.length (by omega) (by omega)
    simp +contextual (dsimp := false) [q0, b0]
    refine LoopA.up (σ := Nat × Heap) [2, 3, 5, 20, 21, 22] (fun x => [(22, int x.1)]) (fun x => x.2)
      (fun x => x.1 ≤ ds[i].links.length ∧ EndM 204 H1 (H.length + 2) (.slice a1 ds[i].action.length z1) [] (nextO ds[i].action ((ds[i].links.take x.1).map (ansL ds))) x.2 ∧ LookOk (nextO ds[i].action ((ds[i].links.take x.1).map (ansL ds))) ∧
        folO ds[i].action (ansL ds) (nextO ds[i].action ((ds[i].links.take x.1).map (ansL ds))) (ds[i].links.drop x.1) = folO ds[i].action (ansL ds) (run ds[i].action Am.start) ds[i].links)
      (fun x => ds[i].links.length - x.1) (0, S1) rfl ⟨by simp, by simpa [nextO] using hE, by simpa [nextO] using run_lookOk hv _ Am.start start_ok rfl, folO_0⟩ ?_
    rintro ⟨k, hq⟩ ⟨gk, gE, gO, go⟩
    dsimp only at gk gE gO go
    simp +contextual (dsimp := false)
    have hgx := hb0 _ _ gE
    have hex : Ext H hq := fun j hj => (hgx.1 j (by omega) (by omega)).trans (hx1 j hj)
    have hexT : ∀ T : Heap, Ext H (hq ++ T) := fun T => hex.trans (Ext.app _ _)
    have e0 := (hgx.1 H.length (by omega) (by omega)).trans b0
    have e1 := (hgx.1 (H.length + 1) (by omega) (by omega)).trans b1
    have hql := hgx.2
    have e1T : ∀ T : Heap, (hq ++ T)[H.length + 1]? = _ := fun T => (List.getElem?_append_left (by omega)).trans e1
    generalize ho : nextO ds[i].action ((ds[i].links.take k).map (ansL ds)) = o at gE gO go
    have hfd : folD ds ds[i] = folE ds[i] (folO ds[i].action (ansL ds) o (ds[i].links.drop k)) := by
      unfold folD
      rw [if_pos hk3, ← go]
    refine ifA_dec (fun h7 => ?_) (fun h7 => ?_)
    · obtain ⟨id5, o5, c5, e5, f5, ow5, cs5, Fi5, E5⟩ := SlR.get (Rp.ext hc2 hex) k h7
      obtain ⟨rfl, rfl, hok5⟩ := E5.rep
      cases o with
      | go m => exact absurd gE id
      | fin cc tx n =>
        obtain ⟨m', F', hm, hf⟩ := gE
        obtain ⟨sv, hb, hst, hni', hnd⟩ := hm
        have hbT : ∀ T : Heap, (hq ++ T)[H.length + 2]? = _ := fun T => (List.getElem?_append_left (by omega)).trans hb
        simp +contextual (dsimp := false) [E5.idx, E5.goB, E5.le, E5.lt, E5.ext, Lnk.c, hbT]
        rw [hfd, ← ho, folO_fin h7 ho]
        exact ⟨rfl, hexT _⟩
      | look a nm m =>
        have hstep := folO_s h7 (f := ansL ds) (code := ds[i].action) (a := a) (n := nm) (m := m) ho
        rw [ho] at hstep
        have gE' := gE
        obtain ⟨F', hm, hf⟩ := gE
        obtain ⟨o1, o2, o3⟩ := gO a nm m rfl
        have hm' := fun T => MacR.ext hm (Ext.app hq T)
        obtain ⟨sv, hb, hst, hni', hnd⟩ := hm
        have hbT : ∀ T : Heap, (hq ++ T)[H.length + 2]? = _ := fun T => (List.getElem?_append_left (by omega)).trans hb
        simp +contextual (dsimp := false) [E5.idx, E5.goB, E5.le, E5.lt, E5.ext, Lnk.c, hbT, bin_bneq und4]
        have hlk := (d8 _ (List.getElem_mem h7)).2
        have hrk := ansL_ok hok (Nat.le_of_lt hi) hlk
        have hf2 : ∀ T : Heap, FrM H1 (H.length + 2) [] (hq ++ T) F' := fun T => hf.trans ⟨by simp, fun j hj _ _ => (Ext.app hq T) j hj, fun j hj => .inr hj⟩
        refine ifA_dec (fun h9 => ?_) (fun h9 => ?_)
        · refine ifA_dec (fun h10 => ?_) (fun h10 => ?_)
          · rw [if_pos ⟨h9, h10⟩] at hstep
            have hgo : ∀ (T : Heap) (S2 : Heap), EndM 204 (hq ++ T) (H.length + 2) (.slice a1 ds[i].action.length z1) F' (runO ds[i].action (answ a nm m (ansL ds ds[i].links[k]))) S2 →
                EndM 204 H1 (H.length + 2) (.slice a1 ds[i].action.length z1) [] (nextO ds[i].action ((ds[i].links.take (k + 1)).map (ansL ds))) S2 ∧ LookOk (nextO ds[i].action ((ds[i].links.take (k + 1)).map (ansL ds))) := by
              intro T S2 q
              rw [List.take_succ_eq_append_getElem h7, List.map_append, List.map_singleton, nextO_app, ho]
              exact ⟨EndM.trans (hf2 _) q, resume_lookOk hv hrk gO⟩
            cases hask : ds[i].links[k].ask with
            | true =>
              have h0 := hlk hask
              obtain ⟨n, hn⟩ : ∃ n : Nat, ds[i].links[k].at_ = n := ⟨ds[i].links[k].at_.toNat, by omega⟩
              have hnl : n < ds.length := by omega
              obtain ⟨id6, o6, c6, e6, f6, ow6, cs6, Fi6, E6⟩ := SlR.get (Rp.ext hs hex) n hnl
              have hrep6 := E6.rep
              obtain ⟨hk6, s61, s62, G61, G62, rfl, hFi6, hc61, hc62⟩ := E6.rep
              obtain ⟨a61, z61, rfl⟩ := hc61.form
              obtain ⟨a62, z62, rfl⟩ := hc62.form
              simp +contextual (dsimp := false) [hask, hn, e1T, E6.idx, E6.goB, E6.le, E6.lt, E6.ext]
              refine CallK.fl ⟨_, Tryz.func134, rfl, rfl⟩ (reply_ac (Rp.ext hrep6 (Ext.app _ _))) ?_
              have hans : ansL ds ds[i].links[k] = replyD ds[n] := by
                unfold ansL
                rw [if_pos hask, hn, Int.toNat_natCast, dAt_lt hnl]
              rw [← hans]
              simp +contextual (dsimp := false) [Rpl.c]
              refine CallK.of ⟨_, Tryz.func135, rfl, rfl⟩ (answer_ac (r := ansL ds ds[i].links[k]) (hm' _) (hn1.fr (hf2 _)) hv o1 o2 o3 hrk h2) ?_
              rintro v S2 ⟨rfl, q⟩
              simp +contextual (dsimp := false) [wrap_succ (show k < 9223372036854775807 by omega)]
              have hq2 := hgo _ _ q
              exact LoopN.of (k + 1, S2) rfl ⟨h7, hq2.1, hq2.2, by dsimp only; rw [← hstep]; exact go⟩ (by dsimp only; omega)
            | false =>
              have hans : ansL ds ds[i].links[k] = ⟨ds[i].links[k].has, 0, []⟩ := by
                unfold ansL
                rw [if_neg (by simp [hask])]
              simp +contextual (dsimp := false) [hask]
              refine CallK.of ⟨_, Tryz.func135, rfl, rfl⟩ (answer_ac (r := ⟨ds[i].links[k].has, 0, []⟩) (hm' _) (hn1.fr (hf2 _)) hv o1 o2 o3 (hans ▸ hrk) h2) ?_
              rintro v S2 ⟨rfl, q⟩
              simp +contextual (dsimp := false) [wrap_succ (show k < 9223372036854775807 by omega)]
              have hq2 := hgo _ _ (hans ▸ q)
              exact LoopN.of (k + 1, S2) rfl ⟨h7, hq2.1, hq2.2, by dsimp only; rw [← hstep]; exact go⟩ (by dsimp only; omega)
          · rw [if_neg (fun h => h10 h.2)] at hstep
            rw [hfd, hstep]
            exact ⟨rfl, hexT _⟩
        · rw [if_neg (fun h => h9 h.1)] at hstep
          rw [hfd, hstep]
          exact ⟨rfl, hexT _⟩
    · obtain rfl : k = ds[i].links.length := by omega
      rw [List.drop_length] at hfd
      cases o with
      | go m => exact absurd gE id
      | fin cc tx n =>
        obtain ⟨m', F', hm, hf⟩ := gE
        obtain ⟨sv, hb, hst, hni', hnd⟩ := hm
        simp +contextual (dsimp := false) [hb, e0]
        rw [hfd, folO]
        simp only [folE]
        refine ifA_dec (fun h8 => ?_) (fun h8 => ?_)
        · refine ifA_dec (fun h9 => ?_) (fun h9 => ?_)
          · rw [if_neg (by simp [h8, h9])]
            exact ⟨rfl, hex⟩
          · rw [if_pos (.inr h9)]
            exact ⟨rfl, hex⟩
        · rw [if_pos (.inl h8)]
          exact ⟨rfl, hex⟩
      | look a nm m =>
        obtain ⟨F', hm, hf⟩ := gE
        obtain ⟨sv, hb, hst, hni', hnd⟩ := hm
        simp +contextual (dsimp := false) [hb]
        rw [hfd, folO]
        exact ⟨rfl, hex⟩
  · simp +contextual (dsimp := false) [hk3]
    simp [folD, hk3]
end Go.Proofs.YtephpieeibcihaaGreatDoor

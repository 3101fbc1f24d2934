import Derived.Test.YtephpieeibcihaaGreatDoorAm28
import Derived.Test.YtephpieeibcihaaGreatDoorHrs
import Derived.Test.YtephpieeibcihaaGreatDoorRsw
set_option linter.all false
namespace Go.Am
open Go
def Cin (n : Nat) (c : Nat → Nat) (a : Nat) (F : List Nat) : Prop := ∀ j ∈ F, j < n ∧ c j = a
def cgrow (c : Nat → Nat) (n a : Nat) : Nat → Nat := fun j => if j < n then c j else a
theorem cgrow_lt {c : Nat → Nat} {n a j : Nat} (h : j < n) : cgrow c n a j = c j := if_pos h
theorem cgrow_ge {c : Nat → Nat} {n a j : Nat} (h : n ≤ j) : cgrow c n a j = a := if_neg (by omega)
section
variable {n n' m a b : Nat} {c c' : Nat → Nat} {F F' G : List Nat}
theorem Cin.nil : Cin n c a [] := by intro j hj; cases hj
theorem Cin.up (h : Cin n c a F) (hn : n ≤ n') (hc : ∀ j, j < n → c' j = c j) : Cin n' c' a F := fun j hj => ⟨by have := (h j hj).1; omega, (hc j (h j hj).1).trans (h j hj).2⟩
theorem Cin.keep (h : Cin n c a F) (hn : n ≤ n') : Cin n' (cgrow c n b) a F := h.up hn fun j hj => cgrow_lt hj
theorem Cin.grow (h : Cin n c a F) (hs : ∀ j ∈ F', j ∈ F ∨ n ≤ j) (hlt : ∀ j ∈ F', j < n') : Cin n' (cgrow c n a) a F' := fun j hj => ⟨hlt j hj, by
  rcases hs j hj with h1 | h1
  · exact (cgrow_lt (h j h1).1).trans (h j h1).2
  · exact cgrow_ge h1⟩
theorem Cin.not (h : Cin n c a F) {j : Nat} (hj : c j ≠ a) : j ∉ F := fun hm => hj (h j hm).2
theorem Cin.apart (h : Cin n c a F) (h' : Cin m c b G) (hab : a ≠ b) : ∀ j ∈ F, j ∉ G := fun j hj => h'.not (by rw [(h j hj).2]; exact hab)
theorem Cin.sub (h : Cin n c a F) (hs : ∀ j ∈ F', j ∈ F) : Cin n c a F' := fun j hj => h j (hs j hj)
end
end Go.Am
namespace Go.Am
open Go
structure Sen where
  name : List UInt8
  ask : Bool
  has : Bool
deriving DecidableEq
def Sen.c (x : Sen) : List Value := [.string ⟨⟨x.name⟩⟩, .bool x.ask, .bool x.has]
def Sen.ok (x : Sen) : Prop := okS x.name
abbrev SenR : RepT Sen := flatR Sen.c Sen.ok
instance : Rp SenR 3 := .flat (fun _ => rfl) (fun _ => rfl)
abbrev SensR (own : Bool) : RepT (List Sen) := SlR own 3 SenR
def senL (ls : List Lnk) : List Sen := ls.map fun l => ⟨l.name, l.ask, l.has⟩
structure Mde where
  name : List UInt8
  code : Int
  text : List UInt8
  seen : List Sen
  done : Bool
deriving DecidableEq
def Mde.ok (x : Mde) : Prop := okS x.name ∧ i64 x.code ∧ okS x.text
def MdeR (own : Bool) : RepT Mde := fun H x c F => Mde.ok x ∧ ∃ s, c = [.string ⟨⟨x.name⟩⟩, .int .i64 x.code, .string ⟨⟨x.text⟩⟩, .slice none 0 0, s, .bool x.done] ∧ SensR own H x.seen [s] F
instance {own : Bool} : Rp (MdeR own) 6 where
  fr := by
    rintro H H' x c F ⟨hk, s1, rfl, h1⟩ hf
    exact ⟨hk, _, rfl, Rp.fr h1 hf⟩
  lt := by
    rintro H x c F ⟨hk, s1, rfl, h1⟩ i hi
    exact Rp.lt h1 i hi
  one := by
    rintro H x c F ⟨hk, s1, rfl, h1⟩
    have o1 := Rp.one h1
    simp [ones, Value.oneCell'] at o1 ⊢
    exact o1
  len := by
    rintro H x c F ⟨hk, s1, rfl, h1⟩
    rfl
abbrev MdesR (own : Bool) : RepT (List Mde) := SlR own 6 (MdeR own)
def namesM (M : List Mde) : List (List UInt8) := M.map (·.name)
structure ShOk (M : List Mde) (ds : List Deed) (way : List (List UInt8)) : Prop where
  nd : (namesM M).Nodup
  sound : ∀ m ∈ M, m.done = true → ∃ d ∈ ds, d.name = m.name ∧ (resD d).code = m.code ∧ (resD d).text = m.text ∧ m.seen = senL d.links
  all : ∀ d ∈ ds, ∃ m ∈ M, m.name = d.name ∧ m.done = true
  opn : ∀ m ∈ M, m.done = false → m.seen = [] ∧ m.name ∈ way
def findM (M : List Mde) (n : List UInt8) : Int := if n ∈ namesM M then ((namesM M).idxOf n : Int) else -1
theorem findM_hit {M : List Mde} {n : List UInt8} {i : Nat} (hi : i < M.length) (h : M[i].name = n) (hb : ∀ j (hj : j < M.length), j < i → M[j].name ≠ n) : findM M n = i := by
  have hl : i < (namesM M).length := by simpa [namesM] using hi
  have hm : n ∈ namesM M := by rw [← h]; exact List.mem_map_of_mem (List.getElem_mem hi)
  unfold findM
  rw [if_pos hm]
  obtain ⟨hk, h1⟩ := idxOf_map (fun m : Mde => m.name) (l := M) hm
  have h2 : ¬ (namesM M).idxOf n < i := fun hlt => hb _ hk hlt h1
  have h3 : ¬ i < (namesM M).idxOf n := fun hlt => by
    have := List.not_of_lt_findIdx (p := (· == n)) (xs := namesM M) (show i < (namesM M).findIdx (· == n) from hlt)
    simp [namesM, h] at this
  omega
theorem findM_none {M : List Mde} {n : List UInt8} (hb : ∀ j (hj : j < M.length), M[j].name ≠ n) : findM M n = -1 := by
  unfold findM
  rw [if_neg fun hm => ?_]
  obtain ⟨m, h1, h2⟩ := List.mem_map.1 hm
  obtain ⟨j, hj, rfl⟩ := List.mem_iff_getElem.1 h1
  exact hb j hj h2
theorem ShOk.nil : ShOk [] [] [] := ⟨List.nodup_nil, by simp, by simp, by simp⟩
theorem ShOk.push {M : List Mde} {ds : List Deed} {way : List (List UInt8)} (h : ShOk M ds way) {n : List UInt8} (hn : n ∉ namesM M) : ShOk (M ++ [⟨n, 0, [], [], false⟩]) ds (way ++ [n]) := by
  refine ⟨?_, fun m hm hd => ?_, fun d hd => ?_, fun m hm hd => ?_⟩
  · simp only [namesM, List.map_append, List.map_cons, List.map_nil]
    exact List.nodup_append.2 ⟨h.nd, by simp, fun a ha b hb hab => hn (by rw [List.mem_singleton.1 hb] at hab; rw [← hab]; exact ha)⟩
  · rcases List.mem_append.1 hm with hm | hm
    · exact h.sound m hm hd
    · rw [List.mem_singleton.1 hm] at hd
      cases hd
  · obtain ⟨m, h1, h2⟩ := h.all d hd
    exact ⟨m, List.mem_append_left _ h1, h2⟩
  · rcases List.mem_append.1 hm with hm | hm
    · exact ⟨(h.opn m hm hd).1, List.mem_append_left _ (h.opn m hm hd).2⟩
    · rw [List.mem_singleton.1 hm]
      exact ⟨rfl, by simp⟩
theorem namesM_len (M : List Mde) : (namesM M).length = M.length := List.length_map _
theorem names_pre {M M' : List Mde} (hp : namesM M <+: namesM M') {i : Nat} (hi : i < M.length) : ∃ hi' : i < M'.length, M'[i].name = M[i].name := by
  have hl := hp.length_le
  rw [namesM_len, namesM_len] at hl
  refine ⟨by omega, ?_⟩
  obtain ⟨t, ht⟩ := hp
  have h1 : (namesM M')[i]'(by rw [namesM_len]; omega) = (namesM M)[i]'(by rw [namesM_len]; exact hi) := by
    simp only [← ht]
    rw [List.getElem_append_left]
  simpa [namesM] using h1
theorem namesM_set {M : List Mde} {k : Nat} {m : Mde} (hk : k < M.length) (hm : m.name = M[k].name) : namesM (M.set k m) = namesM M := by
  unfold namesM
  rw [List.map_set, hm]
  apply List.ext_getElem
  · simp
  · intro i h1 h2
    rw [List.getElem_set]
    split
    · rename_i h
      subst h
      simp
    · rfl
theorem nodup_idx {l : List (List UInt8)} (hn : l.Nodup) {i j : Nat} (hi : i < l.length) (hj : j < l.length) (h : l[i] = l[j]) : i = j := (List.getElem_inj hn).1 h
theorem idxOf_get {l : List (List UInt8)} (hn : l.Nodup) {i : Nat} (hi : i < l.length) : l.idxOf l[i] = i :=
  nodup_idx hn (List.idxOf_lt_length_iff.2 (List.getElem_mem hi)) hi (List.getElem_idxOf _)
theorem ShOk.done {M : List Mde} {ds : List Deed} {way : List (List UInt8)} {n : List UInt8} (h : ShOk M ds (way ++ [n])) {k : Nat} (hk : k < M.length) {d : Deed} (hd : d.name = M[k].name) (hn : d.name ∉ namesD ds) (hdn : d.name = n) :
    ShOk (M.set k ⟨d.name, (resD d).code, (resD d).text, senL d.links, true⟩) (ds ++ [d]) way := by
  refine ⟨by rw [namesM_set hk hd]; exact h.nd, fun m hm hmd => ?_, fun d' hd' => ?_, fun m hm hmd => ?_⟩
  · rcases List.mem_or_eq_of_mem_set hm with h1 | h1
    · obtain ⟨d', g1, g2⟩ := h.sound m h1 hmd
      exact ⟨d', List.mem_append_left _ g1, g2⟩
    · subst h1
      exact ⟨d, by simp, rfl, rfl, rfl, rfl⟩
  · rcases List.mem_append.1 hd' with h1 | h1
    · obtain ⟨m, g1, g2, g3⟩ := h.all d' h1
      obtain ⟨i, hi, rfl⟩ := List.mem_iff_getElem.1 g1
      refine ⟨M[i], ?_, g2, g3⟩
      have hne : k ≠ i := by
        rintro rfl
        exact hn (by rw [hd, g2]; exact List.mem_map_of_mem h1)
      exact List.mem_iff_getElem.2 ⟨i, by simpa using hi, by rw [List.getElem_set_ne hne]⟩
    · rw [List.mem_singleton.1 h1]
      exact ⟨_, List.mem_iff_getElem.2 ⟨k, by simpa using hk, by rw [List.getElem_set_self]⟩, rfl, rfl⟩
  · obtain ⟨i, hi, he⟩ := List.mem_iff_getElem.1 hm
    simp only [List.length_set] at hi
    rw [List.getElem_set] at he
    split at he
    · rw [← he] at hmd
      cases hmd
    · rename_i hne
      subst he
      obtain ⟨o1, o2⟩ := h.opn _ (List.getElem_mem hi) hmd
      refine ⟨o1, (List.mem_append.1 o2).resolve_right fun hx => hne ?_⟩
      have e1 : M[i].name = M[k].name := by rw [List.mem_singleton.1 hx, ← hdn, hd]
      exact (nodup_idx h.nd (i := i) (j := k) (by simpa [namesM] using hi) (by simpa [namesM] using hk) (by simpa [namesM] using e1)).symm
theorem ShOk.found {M : List Mde} {ds : List Deed} {way : List (List UInt8)} (h : ShOk M ds way) (hnd : (namesD ds).Nodup) {i : Nat} (hi : i < ds.length) : ∃ k, ∃ hk : k < M.length, findM M ds[i].name = (k : Int) ∧ M[k].name = ds[i].name ∧ M[k].done = true ∧ M[k].code = (resD ds[i]).code ∧ M[k].text = (resD ds[i]).text ∧ M[k].seen = senL ds[i].links := by
  obtain ⟨m, g1, g2, g3⟩ := h.all _ (List.getElem_mem hi)
  obtain ⟨d, q1, q2, q3, q4, q5⟩ := h.sound m g1 g3
  obtain ⟨k, hk, rfl⟩ := List.mem_iff_getElem.1 g1
  obtain ⟨i', hi', rfl⟩ := List.mem_iff_getElem.1 q1
  obtain rfl : i' = i := nodup_idx hnd (by simpa [namesD] using hi') (by simpa [namesD] using hi) (by simp [namesD, q2, g2])
  have hk' : k < (namesM M).length := by simpa [namesM] using hk
  have hgk : (namesM M)[k] = ds[i'].name := by simp [namesM, g2]
  refine ⟨k, hk, ?_, g2, g3, q3.symm, q4.symm, q5⟩
  unfold findM
  rw [if_pos (by rw [← hgk]; exact List.getElem_mem hk'), ← hgk, idxOf_get h.nd hk']
theorem ShOk.open_ {M : List Mde} {ds : List Deed} {way : List (List UInt8)} (h : ShOk M ds way) {n : List UInt8} (hn : n ∉ namesD ds) (hm : n ∈ namesM M) : ∃ hk : (namesM M).idxOf n < M.length, M[(namesM M).idxOf n].name = n ∧ M[(namesM M).idxOf n].done = false ∧ n ∈ way := by
  obtain ⟨hk, h1⟩ := idxOf_map (fun m : Mde => m.name) (l := M) hm
  have hdf : M[(namesM M).idxOf n].done = false := by
   cases hd : M[(namesM M).idxOf n].done with
   | false => rfl
   | true =>
    obtain ⟨d, g1, g2, _⟩ := h.sound _ (List.getElem_mem hk) hd
    exact absurd (List.mem_map_of_mem (f := fun d : Deed => d.name) g1) (by rw [g2]; exact fun h' => hn (by rw [← h1]; exact h'))
  exact ⟨hk, h1, hdf, by
    have := (h.opn _ (List.getElem_mem hk) hdf).2
    rwa [h1] at this⟩
abbrev shpC (s1 s2 sm so st : Value) (r : Res) (sc : Value) (b : Bool) : Array Value := #[s1, s2, sm, so, st, int r.code, str r.text, sc, .bool b]
structure ShpS (T : TypeId) (H : Heap) (k : Nat) (s1 s2 sm so st : Value) (M : List Mde) (ds : List Deed) (way : List (List UInt8)) (FM FO FT : List Nat) (c : Nat → Nat) : Prop where
  blk : H[k]? = some ⟨.cells (shpC s1 s2 sm so st ⟨0, [], []⟩ (.slice none 0 0) false) T (0, 0), true, true⟩
  mde : MdesR true H M [sm] FM
  ord : StrsR true H (namesD ds) [so] FO
  stk : StrsR true H way [st] FT
  nM : FM.Nodup
  nO : FO.Nodup
  nT : FT.Nodup
  cM : Cin H.length c 1 FM
  cO : Cin H.length c 2 FO
  cT : Cin H.length c 3 FT
  ck : c k = 0
theorem ShpS.up {T : TypeId} {H H' : Heap} {k : Nat} {s1 s2 sm so st : Value} {M : List Mde} {ds : List Deed} {way : List (List UInt8)} {FM FO FT : List Nat} {c c' : Nat → Nat} (h : ShpS T H k s1 s2 sm so st M ds way FM FO FT c)
    (hl : H.length ≤ H'.length) (hc : ∀ j, j < H.length → c' j = c j) (hf : ∀ j, j < H.length → c j ≤ 3 → H'[j]? = H[j]?) : ShpS T H' k s1 s2 sm so st M ds way FM FO FT c' := by
  have hk := (List.getElem?_eq_some_iff.1 h.blk).1
  refine ⟨(hf k hk (by rw [h.ck]; omega)).trans h.blk, Rp.fr h.mde fun j hj => hf j (h.cM j hj).1 (by rw [(h.cM j hj).2]; omega), Rp.fr h.ord fun j hj => hf j (h.cO j hj).1 (by rw [(h.cO j hj).2]; omega), Rp.fr h.stk fun j hj => hf j (h.cT j hj).1 (by rw [(h.cT j hj).2]; omega), h.nM, h.nO, h.nT, h.cM.up hl hc, h.cO.up hl hc, h.cT.up hl hc, (hc k hk).trans h.ck⟩
section
variable {T : TypeId} {H H' : Heap} {k : Nat} {s1 s2 sm so st sm' so' st' : Value} {M M' : List Mde} {ds ds' : List Deed} {way way' : List (List UInt8)} {FM FO FT FM' FO' FT' : List Nat} {c c' : Nat → Nat}
theorem ShpS.klt (h : ShpS T H k s1 s2 sm so st M ds way FM FO FT c) : k < H.length := (List.getElem?_eq_some_iff.1 h.blk).1
theorem ShpS.made (h : ShpS T H k s1 s2 sm so st M ds way FM FO FT c) (hl : H.length ≤ H'.length) (hc : ∀ j, j < H.length → c' j = c j) (hf : ∀ j, j < H.length → j ≠ k → j ∉ FM → H'[j]? = H[j]?) (hb : H'[k]? = some ⟨.cells (shpC s1 s2 sm' so st ⟨0, [], []⟩ (.slice none 0 0) false) T (0, 0), true, true⟩)
    (hm : MdesR true H' M' [sm'] FM') (hn : FM'.Nodup) (hcm : Cin H'.length c' 1 FM') : ShpS T H' k s1 s2 sm' so st M' ds way FM' FO FT c' :=
  ⟨hb, hm, Rp.fr h.ord fun j hj => hf j (h.cO j hj).1 (fun e => by have := (h.cO j hj).2; rw [e, h.ck] at this; omega) (h.cO.apart h.cM (by decide) j hj), Rp.fr h.stk fun j hj => hf j (h.cT j hj).1 (fun e => by have := (h.cT j hj).2; rw [e, h.ck] at this; omega) (h.cT.apart h.cM (by decide) j hj), hn, h.nO, h.nT, hcm, h.cO.up hl hc, h.cT.up hl hc, (hc k h.klt).trans h.ck⟩
theorem ShpS.orde (h : ShpS T H k s1 s2 sm so st M ds way FM FO FT c) (hl : H.length ≤ H'.length) (hc : ∀ j, j < H.length → c' j = c j) (hf : ∀ j, j < H.length → j ≠ k → j ∉ FO → H'[j]? = H[j]?) (hb : H'[k]? = some ⟨.cells (shpC s1 s2 sm so' st ⟨0, [], []⟩ (.slice none 0 0) false) T (0, 0), true, true⟩)
    (hm : StrsR true H' (namesD ds') [so'] FO') (hn : FO'.Nodup) (hcm : Cin H'.length c' 2 FO') : ShpS T H' k s1 s2 sm so' st M ds' way FM FO' FT c' :=
  ⟨hb, Rp.fr h.mde fun j hj => hf j (h.cM j hj).1 (fun e => by have := (h.cM j hj).2; rw [e, h.ck] at this; omega) (h.cM.apart h.cO (by decide) j hj), hm, Rp.fr h.stk fun j hj => hf j (h.cT j hj).1 (fun e => by have := (h.cT j hj).2; rw [e, h.ck] at this; omega) (h.cT.apart h.cO (by decide) j hj), h.nM, hn, h.nT, h.cM.up hl hc, hcm, h.cT.up hl hc, (hc k h.klt).trans h.ck⟩
theorem ShpS.stck (h : ShpS T H k s1 s2 sm so st M ds way FM FO FT c) (hl : H.length ≤ H'.length) (hc : ∀ j, j < H.length → c' j = c j) (hf : ∀ j, j < H.length → j ≠ k → j ∉ FT → H'[j]? = H[j]?) (hb : H'[k]? = some ⟨.cells (shpC s1 s2 sm so st' ⟨0, [], []⟩ (.slice none 0 0) false) T (0, 0), true, true⟩)
    (hm : StrsR true H' way' [st'] FT') (hn : FT'.Nodup) (hcm : Cin H'.length c' 3 FT') : ShpS T H' k s1 s2 sm so st' M ds way' FM FO FT' c' :=
  ⟨hb, Rp.fr h.mde fun j hj => hf j (h.cM j hj).1 (fun e => by have := (h.cM j hj).2; rw [e, h.ck] at this; omega) (h.cM.apart h.cT (by decide) j hj), Rp.fr h.ord fun j hj => hf j (h.cO j hj).1 (fun e => by have := (h.cO j hj).2; rw [e, h.ck] at this; omega) (h.cO.apart h.cT (by decide) j hj), hm, h.nM, h.nO, hn, h.cM.up hl hc, h.cO.up hl hc, hcm, (hc k h.klt).trans h.ck⟩
theorem ShpS.fill (h : ShpS T H k s1 s2 sm so st M ds way FM FO FT c) {i : Nat} (hi : i < M.length) {id o : Nat} {cc cc' : Array Value} {e : TypeId} {fe : Nat × Nat} {ow : Bool} {cs cs' : List Value} {Fi Fi' : List Nat} (E : Elt (MdeR true) 6 true H M sm FM i M[i] id o cc e fe ow cs Fi)
    {m' : Mde} (hl : H.length ≤ H'.length) (hid : H'[id]? = some ⟨.cells cc' e fe, true, ow⟩) (hsz : cc'.size = cc.size) (hcs : cs'.length = 6) (hin : ∀ j, j < 6 → cc'[o + j]? = cs'[j]?) (hout : ∀ j, j < o ∨ o + 6 ≤ j → cc'[j]? = cc[j]?) (hR : MdeR true H' m' cs' Fi')
    (hf : ∀ j, j < H.length → j ≠ id → H'[j]? = H[j]?) (hc : ∀ j, j < H.length → c j ≤ 3 → c' j = c j) (hci : Cin H'.length c' 1 Fi') (hnd : Fi'.Nodup) (hF : ∀ j ∈ Fi', j ∈ Fi ∨ 3 < c j) : ∃ FM', ShpS T H' k s1 s2 sm so st (M.set i m') ds way FM' FO FT c' := by
  have hidM := h.cM id E.mem
  have nk : k ≠ id := fun e => by have := hidM.2; rw [← e, h.ck] at this; omega
  obtain ⟨F', r1, r2, r3, r4, r5, r6, r7⟩ := E.upd h.nM E.own' H' cc' m' cs' Fi' hid hsz hcs hin hout hR (fun j hj hne _ => hf j (h.cM j hj).1 hne)
  have hl' := Rp.lt r1
  refine ⟨F', (hf k h.klt nk).trans h.blk, r1, Rp.fr h.ord fun j hj => hf j (h.cO j hj).1 (fun e => by have := (h.cO j hj).2; rw [e, hidM.2] at this; omega), Rp.fr h.stk fun j hj => hf j (h.cT j hj).1 (fun e => by have := (h.cT j hj).2; rw [e, hidM.2] at this; omega), r4 hnd (fun j hj hm => ?_), h.nO, h.nT, fun j hj => ⟨hl' j hj, ?_⟩, fun j hj => ⟨by have := (h.cO j hj).1; omega, (hc j (h.cO j hj).1 (by rw [(h.cO j hj).2]; decide)).trans (h.cO j hj).2⟩, fun j hj => ⟨by have := (h.cT j hj).1; omega, (hc j (h.cT j hj).1 (by rw [(h.cT j hj).2]; decide)).trans (h.cT j hj).2⟩, (hc k h.klt (by rw [h.ck]; decide)).trans h.ck⟩
  · rcases hF j hj with h1 | h1
    · exact h1
    · have := (h.cM j hm).2
      omega
  · rcases r3 j hj with h1 | h1
    · exact (hc j (h.cM j h1).1 (by rw [(h.cM j h1).2]; decide)).trans (h.cM j h1).2
    · exact (hci j h1).2
end
structure ShpL (T : TypeId) (H : Heap) (k : Nat) (s1 s2 : Value) (M : List Mde) (ds : List Deed) (way : List (List UInt8)) (c : Nat → Nat) (S' : Heap) (c' : Nat → Nat) (M' : List Mde) : Prop where
  le : H.length ≤ S'.length
  col : ∀ j, j < H.length → c' j = c j
  old : ∀ j, j < H.length → 3 < c j → S'[j]? = H[j]?
  shp : ∃ sm so st FM FO FT, ShpS T S' k s1 s2 sm so st M' ds way FM FO FT c'
  ok : ShOk M' ds way
  nam : namesM M <+: namesM M'
  len : M'.length ≤ ds.length + way.length
def ShpE (T : TypeId) (H : Heap) (k : Nat) (s1 s2 : Value) (M : List Mde) (way : List (List UInt8)) (c : Nat → Nat) (v : Value) (S' : Heap) : Mk → Prop
  | .at_ i ds' => v = .agg #[int (resD (dAt ds' i)).code, str (resD (dAt ds' i)).text, .slice none 0 0] ∧ ∃ c' M', ShpL T H k s1 s2 M ds' way c S' c' M'
  | .stop r => H.length ≤ S'.length ∧ (∀ j, j < H.length → 3 < c j → S'[j]? = H[j]?) ∧ ∃ sm so st sc F, v = .agg #[int r.code, str r.text, sc] ∧ S'[k]? = some ⟨.cells (shpC s1 s2 sm so st r sc true) T (0, 0), true, true⟩ ∧ StrsR true S' r.chain [sc] F ∧ (∀ j ∈ F, j ≠ k) ∧ Fresh H.length F
end Go.Am

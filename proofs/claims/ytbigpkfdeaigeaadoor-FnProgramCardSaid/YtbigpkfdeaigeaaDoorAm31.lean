/- Laid tables and texts, in an abstract heap. No condition. -/
import Derived.Test.YtbigpkfdeaigeaaDoorAm30
import Derived.Deep.Strs
namespace Go.Am
open Go Go.Deep Go.RowKit
set_option linter.unusedSimpArgs false
set_option linter.unusedVariables false

variable {P : Program} {W : World}
theorem laid_at : ∀ {laid : List (String × DataW Unit)} {ps : List MemPlace}, DataW.LaidVars P W laid ps → ∀ {n : String} {d : DataW Unit}, (n, d) ∈ laid →
    ∃ g t cs fuel p, P.globalNamed n = some g ∧ (P.globals[g]?).map (·.type) = some t ∧ W.var? P n = some cs ∧ DataW.trod (fun _ => ()) P W 0 (fun _ => true) false fuel t cs.toList = some (d, p)
  | [], _, _, n, d, hm => by cases hm
  | (n0, d0) :: r, ps, ⟨g, t, cs, fuel, p, q, h1, h2, h3, h4, h5, h6⟩, n, d, hm => by
    rcases List.mem_cons.1 hm with he | hm
    · cases he
      exact ⟨g, t, cs, fuel, p, h1, h2, h3, h4⟩
    · exact laid_at h5 hm
theorem var_heap {n : String} {g : Nat} {cs : Array Value} (hg : P.globalNamed n = some g) (h : W.var? P n = some cs) : ∃ e fr, W.heap[g]? = some (.cells cs e fr) := by
  unfold World.var? at h
  rw [hg] at h
  dsimp only [Option.bind] at h
  split at h
  · rename_i c e fr hb
    obtain rfl := Option.some.inj h
    exact ⟨e, fr, hb⟩
  · cases h
/-- Variables of which something is told: each block whole. -/
structure Told (ng : Nat) (E : Emb) (S : Heap) (W : World) : Prop where
  im : Im E S W
  len : ng ≤ S.length
  gl : ∀ g, g < ng → E g = some ⟨g, 0, roomAt W g⟩
  wh : ∀ g, g < ng → WholeV S g (roomAt W g)
theorem Told.start {ng : Nat} (h : ng ≤ W.heap.size) : Told ng (varE W ng) (List.replicate ng deadBlk) W :=
  ⟨Im.vars h, by simp, fun g hg => by simp [varE, hg], fun g hg c e f hc => by
    rw [List.getElem?_replicate, if_pos hg] at hc
    injection hc with hc
    unfold deadBlk at hc
    injection hc with _ h2 _
    cases h2⟩
theorem Told.glob {ng : Nat} {E : Emb} {S : Heap} (h : Told ng E S W) : ∀ g, g < ng → ∃ room, E g = some ⟨g, 0, room⟩ ∧ WholeV S g room := fun g hg => ⟨_, h.gl g hg, h.wh g hg⟩
theorem roomAt_cells {g : Nat} {c : Array Value} {e : TypeId} {fr : Nat × Nat} (h : W.heap[g]? = some (.cells c e fr)) : roomAt W g = c.size := by simp [roomAt, h]
/-- A variable told by its cells. -/
theorem Told.cells {ng : Nat} {E : Emb} {S : Heap} (h : Told ng E S W) {g : Nat} (hg : g < ng) {c' : Array Value} {e : TypeId} {fr : Nat × Nat} (hb : W.heap[g]? = some (.cells c' e fr)) (cs : List Value) (hl : cs.length = c'.size) (hv : ∀ (i : Nat) (v : Value), cs[i]? = some v → ∃ v', c'[i]? = some v' ∧ VR E v v') :
    Told ng E (S.set g ⟨.cells cs.toArray 0 (1, 1), true, false⟩) W := by
  have hr := roomAt_cells hb
  refine ⟨h.im.tell (h.gl g hg) ⟨c', e, fr, hb, hr, by simp [hr, hl], fun i hi => ?_, (fun h => by cases h), (fun h => by cases h), (fun h => by cases h)⟩, by simpa using h.len, h.gl, fun k hk c2 e2 f2 hc => ?_⟩
  · have hi' : i < cs.length := by simpa using hi
    obtain ⟨v', h1, h2⟩ := hv i cs[i] (by rw [List.getElem?_eq_getElem])
    exact ⟨v', by simpa using h1, by simpa using h2⟩
  · by_cases hkg : g = k
    · subst hkg
      rw [List.getElem?_set_self (by have := h.len; omega)] at hc
      injection hc with hc
      injection hc with h1 _ _
      injection h1 with h1 _ _
      rw [← h1, hr]
      simpa using hl
    · rw [List.getElem?_set_ne hkg] at hc
      exact h.wh k hk c2 e2 f2 hc
/-- A new row behind. -/
theorem Told.add {ng : Nat} {E : Emb} {S : Heap} (h : Told ng E S W) {b off : Nat} {c' : Array Value} {e' : TypeId} {fr : Nat × Nat} (hb : W.heap[b]? = some (.cells c' e' fr)) {cs : List Value} (hfit : off + cs.length ≤ c'.size)
    (hv : ∀ i v, cs[i]? = some v → ∃ v', c'[off + i]? = some v' ∧ VR E v v') :
    ∃ E', Told ng E' (S ++ [⟨.cells cs.toArray 0 (1, 1), true, false⟩]) W ∧ (∀ id l, E id = some l → E' id = some l) ∧ E' S.length = some ⟨b, off, c'.size⟩ := by
  obtain ⟨E', h1, h2, h3⟩ := h.im.add hb hfit hv 0 (1, 1) (by simp)
  have hl := h.len
  exact ⟨E', ⟨h1, by simp; omega, fun g hg => h2 _ _ (h.gl g hg), fun g hg c e f hc => h.wh g hg c e f (by rw [List.getElem?_append_left (by omega)] at hc; exact hc)⟩, h2, h3⟩
/-- A table of numbers. -/
theorem Told.tab {ng : Nat} {E : Emb} {S : Heap} (h : Told ng E S W) {laid : List (String × DataW Unit)} {ps : List MemPlace} (hL : DataW.LaidVars P W laid ps) {name : String} {k : IntKind} {zs : List Int} {g : Nat} {t e : TypeId} {n : Nat} (hm : (name, Lib.tabData k zs) ∈ laid)
    (hg : P.globalNamed name = some g) (hgn : g < ng) (hty : (P.globals[g]?).map (·.type) = some t) (ht : P.underlying t = some (.array n e)) (he : P.underlying e = some (.int k)) (hce : P.cellsOf e = 1) (hct : P.cellsOf t = n) :
    Told ng E (S.set g ⟨.cells (zs.map fun z => Value.int k z).toArray 0 (1, 1), true, false⟩) W := by
  obtain ⟨g', t', cs, fuel, p, h1, h2, h3, h4⟩ := laid_at hL hm
  obtain rfl := Option.some.inj (hg.symm.trans h1)
  obtain rfl := Option.some.inj (hty.symm.trans h2)
  obtain ⟨e0, fr, hb⟩ := var_heap hg h3
  have hcs := Lib.cells_of_tab ht he hce hct h4
  refine h.cells hgn hb _ (by rw [← hcs]; simp) fun i v hv => ?_
  rw [← hcs] at hv
  refine ⟨v, by simpa using hv, ?_⟩
  rw [hcs] at hv
  rw [List.getElem?_map] at hv
  obtain ⟨z, _, rfl⟩ := Option.map_eq_some_iff.1 hv
  exact .int _ _
/-- A row of texts. -/
theorem Told.strs {ng : Nat} {E : Emb} {S : Heap} (h : Told ng E S W) {laid : List (String × DataW Unit)} {ps : List MemPlace} (hL : DataW.LaidVars P W laid ps) {name : String} {ls : List (List UInt8)} {g : Nat} {t e : TypeId} (hm : (name, DataW.slice (ls.map fun l => .lit (.string l)) []) ∈ laid)
    (hg : P.globalNamed name = some g) (hgn : g < ng) (hty : (P.globals[g]?).map (·.type) = some t) (ht : P.underlying t = some (.slice e)) (he : P.underlying e = some .string) (hce : P.cellsOf e = 1) (h0 : ls ≠ []) :
    ∃ E', Told ng E' (S.set g ⟨.cells #[.slice (some ⟨S.length, 0, none⟩) ls.length 1] 0 (1, 1), true, false⟩ ++ [⟨.cells (ls.map fun l => Value.string ⟨⟨l⟩⟩).toArray 0 (1, 1), true, false⟩]) W ∧ ∀ id l, E id = some l → E' id = some l := by
  obtain ⟨g', t', cs, fuel, p, h1, h2, h3, h4⟩ := laid_at hL hm
  obtain rfl := Option.some.inj (hg.symm.trans h1)
  obtain rfl := Option.some.inj (hty.symm.trans h2)
  obtain ⟨e0, fr, hb⟩ := var_heap hg h3
  rcases open_strs ht he hce h4 with ⟨_, hx⟩ | ⟨a, len, cap, m, Sx, hcs, _, hlc, _, hmm, hx, hcell⟩
  · have := congrArg Prod.fst hx
    dsimp only at this
    cases this
  · have hx := congrArg Prod.fst hx
    dsimp only at hx
    injection hx with hx1 hx2
    have hm0 : m - len = 0 := by
      have := congrArg List.length hx2
      simpa using this.symm
    simp only [if_true] at hmm
    have hll : ls.length = len := by
      have := congrArg List.length hx1
      simpa using this
    have hSx : ∀ i (hi : i < ls.length), Sx i = ⟨⟨ls[i]⟩⟩ := by
      intro i hi
      have := congrArg (·[i]?) hx1
      simp only [List.getElem?_map, List.getElem?_eq_getElem hi, List.getElem?_range (show i < len by omega), Option.map_some, Option.some.injEq, DataW.lit.injEq, Lit.string.injEq] at this
      apply ByteArray.ext
      apply Array.ext'
      exact this.symm
    have hmlen : m = len := by omega
    have hlpos : 0 < ls.length := List.length_pos_iff.2 h0
    obtain ⟨ab, ao, asp⟩ := a
    have h00 := (hcell 0 (by omega)).1
    have hadd0 : Addr.add ⟨ab, ao, asp⟩ 0 = ⟨ab, ao, asp⟩ := by simp [Addr.add]
    rw [hadd0] at h00
    unfold World.cell? at h00
    split at h00
    · rename_i c' e' fr' hblk
      dsimp only at hblk
      split at h00
      · cases h00
      · rename_i hsp
        have hspot : asp = none := by simpa using hsp
        subst hspot
        have hcw : ∀ j, W.cell? (Addr.add ⟨ab, ao, none⟩ j) = c'[ao + j]? := by
          intro j
          unfold World.cell? Addr.add
          by_cases hj : j = 0
          · simp [hj, hblk]
          · simp [hj, hblk]
        have hlast := (hcell (ls.length - 1) (by omega)).1
        rw [hcw] at hlast
        have hroom := (Array.getElem?_eq_some_iff.1 hlast).1
        obtain ⟨E', q1, q2, q3⟩ := h.add hblk (off := ao) (cs := ls.map fun l => Value.string ⟨⟨l⟩⟩) (by simp; omega) (fun i v hi => by
          obtain ⟨hil, hiv⟩ := List.getElem?_eq_some_iff.1 hi
          simp only [List.length_map] at hil
          simp only [List.getElem_map] at hiv
          subst hiv
          have := (hcell i (by omega)).1
          rw [hcw, hSx i hil] at this
          exact ⟨_, this, .string _⟩)
        have hgl := h.len
        have hcs1 : cs.size = 1 := by
          have := congrArg List.length hcs
          simpa using this
        have hset := q1.cells hgn hb [.slice (some ⟨S.length, 0, none⟩) ls.length 1] (by simp [hcs1]) (fun i v hi => by
          have hi0 : i = 0 := by
            have := (List.getElem?_eq_some_iff.1 hi).1
            simpa using this
          subst hi0
          simp only [List.getElem?_cons_zero, Option.some.injEq] at hi
          subst hi
          have hc0 : cs[0]? = some (.slice (some ⟨ab, ao, none⟩) len cap) := by
            have := congrArg (·[0]?) hcs
            simpa using this
          refine ⟨_, hc0, ?_⟩
          have := VR.slice (E := E') (l := ⟨ab, ao, c'.size⟩) 0 len 1 cap q3 hlc (by dsimp only; omega)
          rw [hll]
          simpa using this)
        refine ⟨E', ?_, q2⟩
        rw [List.set_append_left _ _ (by omega)] at hset
        simpa using hset
    · cases h00
/-- The settled world, the listed variables laid, texts and what pointers lead to in new blocks: for a witness. `et`: the type of a text; `pt`, `st`: the types of a pointer that stands in an interface and of what it leads to. -/
noncomputable def laidWorldX (P : Program) (os : Os) (et pt st : TypeId) (laid : List (String × DataW Unit)) : World :=
  let w0 := World.holding P os ⟨#[], #[], []⟩
  let put (h : Array Obj) (g : Nat) (cs : Array Value) : Array Obj := h.modify g fun
    | .cells _ t fr => .cells cs t fr
    | o => o
  let lay (h : Array Obj) (x : String × DataW Unit) : Array Obj := match P.globalNamed x.1 with
    | some g => match x.2 with
      | .slice es _ => (put h g #[.slice (some ⟨h.size, 0, none⟩) es.length es.length]).push (.cells (es.map litV).toArray et (0, 0))
      | .iface _ (.ptr (.agg ps)) => (put h g #[.iface pt (.pointer (some ⟨h.size, 0, none⟩))]).push (.cells (ps.map litV).toArray st (0, 0))
      | d => put h g (datCells d)
    | none => h
  { w0 with heap := laid.foldl lay w0.heap }
/-- The laid variables, where none is a handle. -/
theorem laid_plain {P : Program} {laid : List (String × DataW Unit)} {W : World} (h : laidMetH P laid W) (hn : (laid.filter fun x => x.2.handleName?.isSome) = []) : ∃ ps, DataW.LaidVars P W laid ps := by
  unfold laidMetH at h
  rw [hn] at h
  obtain ⟨ps, h, _⟩ := h
  exact ⟨ps, h⟩
end Go.Am

import Derived.Test.YtephpieeibcihaaGreatDoorAm24
import Derived.Test.YtephpieeibcihaaGreatDoorAm26
import Derived.Lib.LaidTab
import Derived.Deep.Strs
import Derived.OpenVars
set_option linter.all false
namespace Go.Am
open Go Go.Deep Go.ChangeShapes Go.RowKit
def roomAt (W : World) (g : Nat) : Nat := match W.heap[g]? with
  | some (.cells c _ _) => c.size
  | _ => 0
def varE (W : World) (ng : Nat) : Emb := fun id => if id < ng then some ⟨id, 0, roomAt W id⟩ else none
theorem Im.vars {W : World} {ng : Nat} (h : ng ≤ W.heap.size) : Im (varE W ng) (List.replicate ng deadBlk) W := ⟨fun id l he => by
  unfold varE at he
  split at he
  · rename_i hid
    obtain rfl := Option.some.inj he
    exact ⟨deadBlk, by rw [List.getElem?_replicate, if_pos hid], rfl, by dsimp only; omega, fun hl => by cases hl⟩
  · cases he⟩
theorem Im.tell {E : Emb} {S : Heap} {W : World} (h : Im E S W) {id : Nat} {l : Loc} (he : E id = some l) {o : Obj} (ho : ObjR E false l W o) : Im E (S.set id ⟨o, true, false⟩) W := ⟨fun i li hi => by
  by_cases hc : id = i
  · subst hc
    rw [he] at hi
    obtain rfl := Option.some.inj hi
    obtain ⟨b, h1, h2, h3, h4⟩ := h.blk id l he
    exact ⟨_, List.getElem?_set_self (List.getElem?_eq_some_iff.1 h1).1, rfl, h3, fun _ => ho⟩
  · obtain ⟨b, h1, h2, h3, h4⟩ := h.blk i li hi
    exact ⟨b, (List.getElem?_set_ne hc).trans h1, h2, h3, h4⟩⟩
theorem Rel.pushAt {ng : Nat} {E : Emb} {S : Heap} {w w' : World} (h : Rel ng E S w) (bel : Below w.heap.size w w') {A room : Nat} (hA : w.heap.size ≤ A) (hA' : A < w'.heap.size) (b : Blk)
    (ho : b.live = true → ObjR (Emb.push E S.length ⟨A, 0, room⟩) b.own ⟨A, 0, room⟩ w' b.obj) :
    Rel ng (Emb.push E S.length ⟨A, 0, room⟩) (S ++ [b]) w' ∧ Grow S.length E S w (Emb.push E S.length ⟨A, 0, room⟩) (S ++ [b]) w' := by
  have hlt : ∀ id l, E id = some l → l.blk < w.heap.size := fun id l he => by
    obtain ⟨b0, h1, h2, h3⟩ := h.blk id l he
    exact h2
  refine ⟨⟨fun id l he => ?_, fun i j li lj bi bj hi hj gi gj hli hlj hoi hij => ?_, fun g hg => ?_⟩, fun id hid => ?_, bel.os, bel.tape, bel.output, bel.size, fun k hk _ => bel.block k hk, fun id l0 bl he hs h1 h2 hl => ?_⟩
  · simp only [Emb.push] at he
    split at he
    · rename_i hid
      subst hid
      obtain rfl := Option.some.inj he
      exact ⟨b, by simp, hA', ho⟩
    · obtain ⟨b0, h1, h2, h3⟩ := h.blk id l he
      exact ⟨b0, by rw [List.getElem?_append_left (h.lt he)]; exact h1, by have := bel.size; omega, fun hl => ((h3 hl).mono (Emb.push_mono h _)).congr (bel.block _ h2)⟩
  · simp only [Emb.push] at hi hj
    split at hi <;> split at hj
    · omega
    · obtain rfl := Option.some.inj hi
      have := hlt j lj hj
      show A ≠ lj.blk
      omega
    · obtain rfl := Option.some.inj hj
      have := hlt i li hi
      show li.blk ≠ A
      omega
    · rw [List.getElem?_append_left (h.lt hi)] at gi
      rw [List.getElem?_append_left (h.lt hj)] at gj
      exact h.apart i j li lj bi bj hi hj gi gj hli hlj hoi hij
  · obtain ⟨r, hr, hw⟩ := h.glob g hg
    exact ⟨r, Emb.push_mono h _ _ _ hr, fun c e f hc => hw c e f (by rw [List.getElem?_append_left (h.lt hr)] at hc; exact hc)⟩
  · simp only [Emb.push]; rw [if_neg (by omega)]
  · simp only [Emb.push] at he
    split at he
    · obtain rfl := Option.some.inj he
      dsimp only at hl
      omega
    · rw [List.getElem?_append_left (h.lt he)] at hs
      exact ⟨id, l0, bl, he, hs, h1, h2, rfl⟩
theorem AC.ofRow {P : Program} {ng : Nat} {f : FuncId} {args : List Value} {S : Heap} {e : TypeId} {vs : List Value} (hf : args.all Am.flat = true) (hvs : ∀ v ∈ vs, flat0 v = true)
    (h : ∀ w, Calls P f args.toArray w fun ex w' => ∃ A n, ex = .returned (.slice (some ⟨A, 0, none⟩) vs.length n) ∧ w.heap.size ≤ A ∧ w'.ownsRow w.heap.size e 1 (.slice (some ⟨A, 0, none⟩) vs.length n) vs.length vs ∧ Below w.heap.size w w') :
    AC P ng f args S fun v S' => v = .slice (some ⟨S.length, 0, none⟩) vs.length 1 ∧ S' = S ++ [⟨.cells vs.toArray e (0, 1), true, true⟩] := by
  intro E args' w h1 h2 h3
  rw [VRs_flat hf h1]
  refine (h w).mono ?_
  rintro ex w' ⟨A, n, rfl, hA, hrow, bel⟩
  obtain ⟨_, hrow⟩ := hrow
  rcases hrow with ⟨hv, _⟩ | ⟨g, cap, cur, hv, hb, hg, hnc, hcm, hcs, htake⟩
  · cases hv
  · injection hv with hv1 hv2 hv3
    injection hv1 with hv1
    injection hv1 with hv1 _ _
    subst hv1; subst hv3
    rw [Nat.mul_one] at hcs htake
    have hAlt : A < w'.heap.size := (Array.getElem?_eq_some_iff.1 hg).1
    obtain ⟨r1, r2⟩ := h2.pushAt bel (room := cur.size) hA hAlt ⟨.cells vs.toArray e (0, 1), true, true⟩ fun _ => by
      refine ⟨cur, e, (0, 0), hg, rfl, by simp; omega, fun i hi => ?_, fun _ o _ => by simp, fun _ => rfl, fun hq => by simp at hq⟩
      have hi' : i < vs.length := by simpa using hi
      have hcell : cur[i]? = some vs[i] := by
        have h4 : (cur.toList.take vs.length)[i]? = vs[i]? := by rw [htake]
        rw [List.getElem?_take, if_pos hi', Array.getElem?_toList] at h4
        rw [h4, List.getElem?_eq_getElem hi']
      refine ⟨vs[i], by simpa using hcell, ?_⟩
      have : vs.toArray[i] = vs[i] := by simp
      rw [this]
      exact VR.refl0 _ (hvs _ (List.getElem_mem hi'))
    refine ⟨_, _, _, _, rfl, ⟨rfl, rfl⟩, ?_, r1, by simp, r2⟩
    have := VR.slice (E := Emb.push E S.length ⟨A, 0, cur.size⟩) (id := S.length) (l := ⟨A, 0, cur.size⟩) 0 vs.length 1 n (push_self _ _ _) hnc (by simp; omega)
    simpa using this
end Go.Am
namespace Go.Am
open Go Go.Deep Go.RowKit
variable {P : Program} {W : World}
theorem laid_at : ∀ {laid : List (String × DataW Unit)} {ps : List MemPlace}, DataW.LaidVars P W laid ps → ∀ {n : String} {d : DataW Unit}, (n, d) ∈ laid →
    ∃ g t cs fuel p, P.globalNamed n = some g ∧ (P.globals[g]?).map (·.type) = some t ∧ W.var? P n = some cs ∧ DataW.trod (fun _ => ()) P W 0 (fun _ => true) false fuel t cs.toList = some (d, p)
  | [], _, _, n, d, hm => by cases hm
  | (n0, d0) :: r, ps, ⟨g, t, cs, fuel, p, q, h1, h2, h3, h4, h5, h6⟩, n, d, hm => by
    rcases List.mem_cons.1 hm with he | hm
    · cases he
      exact ⟨g, t, cs, fuel, p, h1, h2, h3, h4⟩
    · exact laid_at h5 hm
theorem var_heap {n : String} {g : Nat} {cs : Array Value} (hg : P.globalNamed n = some g) (h : W.var? P n = some cs) : ∃ e fr, W.heap[g]? = some (.cells cs e fr) := by
  unfold World.var? at h
  rw [hg] at h
  dsimp only [Option.bind] at h
  split at h
  · rename_i c e fr hb
    obtain rfl := Option.some.inj h
    exact ⟨e, fr, hb⟩
  · cases h
structure Told (ng : Nat) (E : Emb) (S : Heap) (W : World) : Prop where
  im : Im E S W
  len : ng ≤ S.length
  gl : ∀ g, g < ng → E g = some ⟨g, 0, roomAt W g⟩
  wh : ∀ g, g < ng → WholeV S g (roomAt W g)
theorem Told.start {ng : Nat} (h : ng ≤ W.heap.size) : Told ng (varE W ng) (List.replicate ng deadBlk) W :=
  ⟨Im.vars h, by simp, fun g hg => by simp [varE, hg], fun g hg c e f hc => by
    rw [List.getElem?_replicate, if_pos hg] at hc
    injection hc with hc
    unfold deadBlk at hc
    injection hc with _ h2 _
    cases h2⟩
theorem Told.glob {ng : Nat} {E : Emb} {S : Heap} (h : Told ng E S W) : ∀ g, g < ng → ∃ room, E g = some ⟨g, 0, room⟩ ∧ WholeV S g room := fun g hg => ⟨_, h.gl g hg, h.wh g hg⟩
theorem roomAt_cells {g : Nat} {c : Array Value} {e : TypeId} {fr : Nat × Nat} (h : W.heap[g]? = some (.cells c e fr)) : roomAt W g = c.size := by simp [roomAt, h]
theorem Told.cells {ng : Nat} {E : Emb} {S : Heap} (h : Told ng E S W) {g : Nat} (hg : g < ng) {c' : Array Value} {e : TypeId} {fr : Nat × Nat} (hb : W.heap[g]? = some (.cells c' e fr)) (cs : List Value) (hl : cs.length = c'.size) (hv : ∀ (i : Nat) (v : Value), cs[i]? = some v → ∃ v', c'[i]? = some v' ∧ VR E v v') :
    Told ng E (S.set g ⟨.cells cs.toArray 0 (1, 1), true, false⟩) W := by
  have hr := roomAt_cells hb
  refine ⟨h.im.tell (h.gl g hg) ⟨c', e, fr, hb, hr, by simp [hr, hl], fun i hi => ?_, (fun h => by cases h), (fun h => by cases h), (fun h => by cases h)⟩, by simpa using h.len, h.gl, fun k hk c2 e2 f2 hc => ?_⟩
  · have hi' : i < cs.length := by simpa using hi
    obtain ⟨v', h1, h2⟩ := hv i cs[i] (by rw [List.getElem?_eq_getElem])
    exact ⟨v', by simpa using h1, by simpa using h2⟩
  · by_cases hkg : g = k
    · subst hkg
      rw [List.getElem?_set_self (by have := h.len; omega)] at hc
      injection hc with hc
      injection hc with h1 _ _
      injection h1 with h1 _ _
      rw [← h1, hr]
      simpa using hl
    · rw [List.getElem?_set_ne hkg] at hc
      exact h.wh k hk c2 e2 f2 hc
theorem Told.add {ng : Nat} {E : Emb} {S : Heap} (h : Told ng E S W) {b off : Nat} {c' : Array Value} {e' : TypeId} {fr : Nat × Nat} (hb : W.heap[b]? = some (.cells c' e' fr)) {cs : List Value} (hfit : off + cs.length ≤ c'.size)
    (hv : ∀ i v, cs[i]? = some v → ∃ v', c'[off + i]? = some v' ∧ VR E v v') :
    ∃ E', Told ng E' (S ++ [⟨.cells cs.toArray 0 (1, 1), true, false⟩]) W ∧ (∀ id l, E id = some l → E' id = some l) ∧ E' S.length = some ⟨b, off, c'.size⟩ := by
  obtain ⟨E', h1, h2, h3⟩ := h.im.add hb hfit hv 0 (1, 1) (by simp)
  have hl := h.len
  exact ⟨E', ⟨h1, by simp; omega, fun g hg => h2 _ _ (h.gl g hg), fun g hg c e f hc => h.wh g hg c e f (by rw [List.getElem?_append_left (by omega)] at hc; exact hc)⟩, h2, h3⟩
theorem Told.tab {ng : Nat} {E : Emb} {S : Heap} (h : Told ng E S W) {laid : List (String × DataW Unit)} {ps : List MemPlace} (hL : DataW.LaidVars P W laid ps) {name : String} {k : IntKind} {zs : List Int} {g : Nat} {t e : TypeId} {n : Nat} (hm : (name, Lib.tabData k zs) ∈ laid)
    (hg : P.globalNamed name = some g) (hgn : g < ng) (hty : (P.globals[g]?).map (·.type) = some t) (ht : P.underlying t = some (.array n e)) (he : P.underlying e = some (.int k)) (hce : P.cellsOf e = 1) (hct : P.cellsOf t = n) :
    Told ng E (S.set g ⟨.cells (zs.map fun z => Value.int k z).toArray 0 (1, 1), true, false⟩) W := by
  obtain ⟨g', t', cs, fuel, p, h1, h2, h3, h4⟩ := laid_at hL hm
  obtain rfl := Option.some.inj (hg.symm.trans h1)
  obtain rfl := Option.some.inj (hty.symm.trans h2)
  obtain ⟨e0, fr, hb⟩ := var_heap hg h3
  have hcs := Lib.cells_of_tab ht he hce hct h4
  refine h.cells hgn hb _ (by rw [← hcs]; simp) fun i v hv => ?_
  rw [← hcs] at hv
  refine ⟨v, by simpa using hv, ?_⟩
  rw [hcs] at hv
  rw [List.getElem?_map] at hv
  obtain ⟨z, _, rfl⟩ := Option.map_eq_some_iff.1 hv
  exact .int _ _
noncomputable def laidWorldX (P : Program) (os : Os) (et pt st : TypeId) (laid : List (String × DataW Unit)) : World :=
  let w0 := World.holding P os ⟨#[], #[], []⟩
  let put (h : Array Obj) (g : Nat) (cs : Array Value) : Array Obj := h.modify g fun
    | .cells _ t fr => .cells cs t fr
    | o => o
  let lay (h : Array Obj) (x : String × DataW Unit) : Array Obj := match P.globalNamed x.1 with
    | some g => match x.2 with
      | .slice es _ => (put h g #[.slice (some ⟨h.size, 0, none⟩) es.length es.length]).push (.cells (es.map litV).toArray et (0, 0))
      | .iface _ (.ptr (.agg ps)) => (put h g #[.iface pt (.pointer (some ⟨h.size, 0, none⟩))]).push (.cells (ps.map litV).toArray st (0, 0))
      | d => put h g (datCells d)
    | none => h
  { w0 with heap := laid.foldl lay w0.heap }
theorem laid_plain {P : Program} {laid : List (String × DataW Unit)} {W : World} (h : laidMetH P laid W) (hn : (laid.filter fun x => x.2.handleName?.isSome) = []) : ∃ ps, DataW.LaidVars P W laid ps := by
  unfold laidMetH at h
  rw [hn] at h
  obtain ⟨ps, h, _⟩ := h
  exact ⟨ps, h⟩
end Go.Am
namespace Go.Am
open Go Go.Deep Go.ChangeShapes Go.RowKit
theorem law_contract_vars {P : Program} {f : FuncId} {fn : Func} {s : ChangeSpec} {H : Type} {enc : TypeId × Value → H} {tb : TypeId} {α : Type} {R : RepA α} {ng : Nat} {GP : Heap → Prop} {L : World → Prop}
    (hvars : varsRowed P s.vars = true) (hs : ∀ ds gs : List (DataW H), ds.length = fn.params.size → gs.length = s.vars.length → (s.fn H (ds ++ gs)).results = [.lit (.bool true)] ∧ (s.fn H (ds ++ gs)).args = ds ∧ (s.fn H (ds ++ gs)).vars = gs)
    (hres : fn.resultTypes = #[tb]) (htb : P.underlying tb = some .bool) (hl : laidOutB P = true) (hts : (fn.params.toList.all fun t => P.readableRec t && decide (t < P.types.size)) = true)
    (hLaid : ∀ W, L W → ∃ E S, Im E S W ∧ (∀ g, g < ng → ∃ room, E g = some ⟨g, 0, room⟩ ∧ WholeV S g room) ∧ ng ≤ S.length ∧ ∀ T, GP (S ++ T))
    (hR : RdA P fn.params.toList R) (hAC : ∀ S a vs, GP S → R S a vs → AC P ng f vs S fun v S' => v = .bool true ∧ S' = S)
    (W : World) (base : Nat) (args : Array Value) (ds gs : List (DataW H)) (before : List MemPlace)
    (hval : ∀ (j : Nat) (t : TypeId) (v : Value), fn.params[j]? = some t → args[j]? = some v → Value.okWide P W .any base t v) (hW : DataW.Whole enc P fn.params.toList s.vars false W args.toList ds gs before)
    (hsz : (DataW.weightsEach P (fn.params.toList ++ s.plain.varTypes P) (ds ++ gs)).all (· ≤ reachBytes) = true) (hLW : L W) :
    Calls P f args W fun e W' => ∃ v, e = .returned v ∧ s.post enc P fn false true false false W args v W' := by
  have hW' := hW
  obtain ⟨p, q, hA, hV, rfl, hfz, hnd⟩ := hW
  have hlt := hW'.lt
  have hlp : ∀ x ∈ p, x.block < W.heap.size := fun x hx => hlt x (List.mem_append_left _ hx)
  have hlen : ds.length = fn.params.size := by have := TrodAll.len hA; simpa using this
  have hlenv : gs.length = s.vars.length := by
    clear hsz hs hvars hnd hlt hW' hfz
    generalize s.vars = ns at hV
    induction ns generalizing gs q with
    | nil => obtain ⟨rfl, -⟩ := trodVars_none hV; rfl
    | cons n ns ih =>
      match gs, hV with
      | _ :: _, hV =>
        obtain ⟨_, _, _, _, _, q', _, _, _, _, hs, _⟩ := hV
        simp [ih _ q' hs]
  have hsz' : ∀ n ∈ DataW.weightsEach P fn.params.toList ds, n ≤ reachBytes := by
    have key : ∀ (ts us : List TypeId) (ds es : List (DataW H)), ds.length = ts.length → ∀ n ∈ DataW.weightsEach P ts ds, n ∈ DataW.weightsEach P (ts ++ us) (ds ++ es) := by
      intro ts
      induction ts with
      | nil => intro us ds es h n hn; cases ds with
        | nil => simp [DataW.weightsEach] at hn
        | cons _ _ => simp at h
      | cons t ts ih => intro us ds es h n hn; cases ds with
        | nil => simp at h
        | cons d ds =>
          simp only [DataW.weightsEach, List.cons_append, List.mem_append] at hn ⊢
          rcases hn with hn | hn
          · exact .inl hn
          · exact .inr (ih us ds es (by simpa using h) n hn)
    intro n hn
    have := List.all_eq_true.1 hsz n (key _ _ _ _ (by simpa using hlen) n hn)
    simpa using this
  obtain ⟨E0, S0, hI0, hg0, hng, hGP⟩ := hLaid W hLW
  obtain ⟨a, vs', E, G, h1, h2, h3, h4⟩ := hR (base := base) hA (fun j t v a1 a2 => hval j t v (by simpa using a1) (by simpa using a2)) hsz' hI0
  refine (ac_calls (hAC _ a vs' (hGP G) h4) rfl h2 (fun g hg => by obtain ⟨room, hr, hw⟩ := hg0 g hg; exact ⟨room, h3 _ _ hr, fun c e f hc => hw c e f (by rw [List.getElem?_append_left (by omega)] at hc; exact hc)⟩) (by simp; omega) h1).mono fun e W' ⟨he, bel⟩ => ?_
  obtain ⟨e1, e2, e3⟩ := hs ds gs hlen hlenv
  refine ⟨_, he, ds, gs, p ++ q, [], p, q, hW', ?_, ?_, ?_, bel.frame _, fun h => by cases h⟩
  · rw [e1, hres]
    exact trodAll_mk1 (shut_bool htb _)
  · rw [e2]
    exact trodAll_below hl bel hts hA hlp
  · rw [e3]
    exact Below.trodVars hl bel hvars hV
end Go.Am

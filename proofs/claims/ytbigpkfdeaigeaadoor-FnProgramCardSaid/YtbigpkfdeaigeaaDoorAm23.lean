/- What is read of a world's arguments, as an abstract heap. No condition. -/
import Derived.Test.YtbigpkfdeaigeaaDoorAm20
import Derived.SizedLaws
import Derived.Deep.Slices
import Derived.OpenShut
import Derived.Carry
namespace Go.Am
open Go Go.Deep
set_option linter.unusedSimpArgs false
set_option linter.unusedVariables false

/-- Abstract cells and real ones. -/
def VL (E : Emb) : List Value → List Value → Prop
  | [], [] => True
  | a :: x, b :: y => VR E a b ∧ VL E x y
  | _, _ => False
theorem VL.mono {E E' : Emb} (hE : ∀ id l, E id = some l → E' id = some l) : ∀ {x y : List Value}, VL E x y → VL E' x y
  | [], [], _ => trivial
  | _ :: _, _ :: _, h => ⟨h.1.mono hE, VL.mono hE h.2⟩
theorem VL.one {E : Emb} {a b : Value} (h : VR E a b) : VL E [a] [b] := ⟨h, trivial⟩
theorem VL.append {E : Emb} : ∀ {x y x' y' : List Value}, VL E x y → VL E x' y' → VL E (x ++ x') (y ++ y')
  | [], [], _, _, _, h => h
  | _ :: _, _ :: _, _, _, h, h' => ⟨h.1, VL.append h.2 h'⟩
theorem VL.length {E : Emb} : ∀ {x y : List Value}, VL E x y → x.length = y.length
  | [], [], _ => rfl
  | _ :: _, _ :: _, h => by simp [VL.length h.2]
theorem VL.get {E : Emb} : ∀ {x y : List Value}, VL E x y → ∀ {i : Nat} {a : Value}, x[i]? = some a → ∃ b, y[i]? = some b ∧ VR E a b
  | [], [], _, i, a, h => by simp at h
  | _ :: _, _ :: _, h, 0, a, hi => by
    simp only [List.getElem?_cons_zero, Option.some.injEq] at hi
    subst hi
    exact ⟨_, rfl, h.1⟩
  | _ :: _, _ :: _, h, i + 1, a, hi => VL.get h.2 (by simpa using hi)
theorem VL.agg {E : Emb} {x y : List Value} (h : VL E x y) : VR E (.agg x.toArray) (.agg y.toArray) := by
  refine .agg (by simpa using h.length) fun i hx hy => ?_
  obtain ⟨b, hb, hv⟩ := h.get (i := i) (a := x[i]'(by simpa using hx)) (by simp)
  have : y[i]'(by simpa using hy) = b := by
    rw [List.getElem?_eq_getElem (by simpa using hy)] at hb
    exact Option.some.inj hb
  simpa [this] using hv

/-- A heap of what is read and not written. -/
structure Im (E : Emb) (S : Heap) (W : World) : Prop where
  blk : ∀ id l, E id = some l → ∃ b, S[id]? = some b ∧ b.own = false ∧ l.blk < W.heap.size ∧ (b.live = true → ObjR E false l W b.obj)

theorem Im.nil (W : World) : Im (fun _ => none) [] W := ⟨fun _ _ h => by cases h⟩
theorem Im.lt {E : Emb} {S : Heap} {W : World} (h : Im E S W) {id : Nat} {l : Loc} (he : E id = some l) : id < S.length := by
  obtain ⟨b, hb, _⟩ := h.blk id l he
  exact (List.getElem?_eq_some_iff.1 hb).1
theorem Im.rel {E : Emb} {S : Heap} {W : World} {ng : Nat} (h : Im E S W) (hg : ∀ g, g < ng → ∃ room, E g = some ⟨g, 0, room⟩ ∧ WholeV S g room) : Rel ng E S W where
  blk id l he := by
    obtain ⟨b, h1, h2, h4, h5⟩ := h.blk id l he
    exact ⟨b, h1, h4, fun hl => by rw [h2]; exact h5 hl⟩
  apart i j li lj bi bj hi _ hbi _ _ _ ho _ := by
    obtain ⟨b, h1, h2, _⟩ := h.blk i li hi
    rw [h1] at hbi
    obtain rfl := Option.some.inj hbi
    rw [h2] at ho
    cases ho
  glob := hg

theorem Im.add {E : Emb} {S : Heap} {W : World} (h : Im E S W) {b off : Nat} {c' : Array Value} {e' : TypeId} {fr : Nat × Nat} (hb : W.heap[b]? = some (.cells c' e' fr)) {cs : List Value} (hfit : off + cs.length ≤ c'.size)
    (hv : ∀ i v, cs[i]? = some v → ∃ v', c'[off + i]? = some v' ∧ VR E v v') (e : TypeId) (f : Nat × Nat) (hq : f.1 ≠ 0) :
    ∃ E', Im E' (S ++ [⟨.cells cs.toArray e f, true, false⟩]) W ∧ (∀ id l, E id = some l → E' id = some l) ∧ E' S.length = some ⟨b, off, c'.size⟩ := by
  have hE : ∀ id l, E id = some l → (if id = S.length then some ⟨b, off, c'.size⟩ else E id) = some l := fun id l he => by
    rw [if_neg (by have := h.lt he; omega)]; exact he
  refine ⟨fun id => if id = S.length then some ⟨b, off, c'.size⟩ else E id, ⟨fun id l he => ?_⟩, hE, by simp⟩
  split at he
  · next hid =>
    subst hid
    obtain rfl := Option.some.inj he
    refine ⟨⟨.cells cs.toArray e f, true, false⟩, by simp, rfl, (Array.getElem?_eq_some_iff.1 hb).1, fun _ => ⟨c', e', fr, hb, rfl, by simpa using hfit, fun i hi => ?_, (fun h => by cases h), fun h => absurd h hq, fun h => absurd (by rw [h]) hq⟩⟩
    obtain ⟨v', h1, h2⟩ := hv i cs[i] (by rw [List.getElem?_eq_getElem])
    exact ⟨v', h1, by simpa using h2.mono hE⟩
  · obtain ⟨bl, h1, h2, h4, h5⟩ := h.blk id l he
    exact ⟨bl, by rw [List.getElem?_append_left (h.lt he)]; exact h1, h2, h4, fun hl => (h5 hl).mono hE⟩

/-- Whatever a reading at type t tells is a thing of R, in a heap of what was read. -/
def Rd (P : Program) (t : TypeId) {α : Type} (R : RepT α) : Prop :=
  ∀ ⦃Hh : Type⦄ ⦃enc : TypeId × Value → Hh⦄ ⦃W : World⦄ ⦃fuel : Nat⦄ ⦃cs : List Value⦄ ⦃x : DataW Hh × List MemPlace⦄, DataW.trod enc P W 0 (fun _ => true) true fuel t cs = some x → (∀ n ∈ x.1.weights P t, n ≤ reachBytes) →
    ∀ ⦃E : Emb⦄ ⦃S : Heap⦄, Im E S W → ∃ a cs' F E' G, VL E' cs' cs ∧ Im E' (S ++ G) W ∧ (∀ id l, E id = some l → E' id = some l) ∧ R (S ++ G) a cs' F

theorem Rd.imp {P : Program} {t : TypeId} {α β : Type} {R : RepT α} {R' : RepT β} (h : Rd P t R) (hi : ∀ H x c F, R H x c F → ∃ y F', R' H y c F') : Rd P t R' := by
  intro Hh enc W fuel cs x hx hw E S hI
  obtain ⟨a, cs', F, E', G, h1, h2, h3, h4⟩ := h hx hw hI
  obtain ⟨y, F', hy⟩ := hi _ _ _ _ h4
  exact ⟨y, cs', F', E', G, h1, h2, h3, hy⟩

def intR (k : IntKind) : RepT Int := flatR (fun n => [.int k n]) fun n => (Lit.int k n).wf = true
def boolR : RepT Bool := flatR (fun b => [.bool b]) fun _ => True
def sstrR : RepT (List UInt8) := flatR (fun s => [.string ⟨⟨s⟩⟩]) fun s => s.length ≤ 140737488355328

instance {k : IntKind} : Rp (intR k) 1 := .flat (fun _ => rfl) (fun _ => rfl)
instance : Rp boolR 1 := .flat (fun _ => rfl) (fun _ => rfl)
instance : Rp sstrR 1 := .flat (fun _ => rfl) (fun _ => rfl)
theorem Rd.int {P : Program} {t : TypeId} {k : IntKind} (ht : P.underlying t = some (.int k)) : Rd P t (intR k) := by
  intro Hh enc W fuel cs x hx hw E S hI
  obtain ⟨n, rfl, rfl, hwf⟩ := DataW.trod_int ht hx
  exact ⟨n, _, [], E, [], VL.one (.int _ _), by simpa using hI, fun _ _ h => h, rfl, rfl, hwf⟩
theorem Rd.bool {P : Program} {t : TypeId} (ht : P.underlying t = some .bool) : Rd P t boolR := by
  intro Hh enc W fuel cs x hx hw E S hI
  obtain ⟨n, rfl, rfl⟩ := DataW.trod_bool ht hx
  exact ⟨n, _, [], E, [], VL.one (.bool _), by simpa using hI, fun _ _ h => h, rfl, rfl, trivial⟩
theorem Rd.str {P : Program} {t : TypeId} (ht : P.underlying t = some .string) : Rd P t sstrR := by
  intro Hh enc W fuel cs x hx hw E S hI
  obtain ⟨s, rfl, rfl, hs⟩ := DataW.trod_string ht hx
  refine ⟨s.data.toList, _, [], E, [], VL.one (.string s), by simpa using hI, fun _ _ h => h, rfl, rfl, ?_⟩
  have := hw s.data.toList.length (by simp [DataW.weights])
  have : reachBytes ≤ 140737488355328 := by decide
  omega

theorem mem_weightsAll {Hh : Type} {P : Program} {e : TypeId} : ∀ {l : List (DataW Hh)} {d : DataW Hh}, d ∈ l → ∀ n ∈ d.weights P e, n ∈ DataW.weightsAll P e l
  | _ :: _, d, hd, n, hn => by
    rcases List.mem_cons.1 hd with rfl | hd
    · exact List.mem_append_left _ hn
    · exact List.mem_append_right _ (mem_weightsAll hd n hn)

theorem Ext.rp {α : Type} {R : RepT α} {sz : Nat} [hRp : Rp R sz] {H H' : Heap} {x : α} {c : List Value} {F : List Nat} (h : R H x c F) (he : Ext H H') : R H' x c F := hRp.fr h fun i hi => he i (hRp.lt h i hi)

theorem Rd.slice {P : Program} {α : Type} {R : RepT α} {t e : TypeId} {sz : Nat} [hRp : Rp R sz] (h : Rd P e R) (ht : P.underlying t = some (.slice e)) (hc : P.cellsOf e = sz) (hpos : 0 < sz) (hby : 1 ≤ P.bytesOf e) : Rd P t (SlR false sz R) := by
  intro Hh enc W fuel cs x hx hw E S hI
  rcases open_slice ht hx with ⟨rfl, rfl⟩ | ⟨a, len, cap, m, n, D, Pl, rfl, _, hl, hm, hmm, rfl, hel⟩
  · exact ⟨[], [.slice none 0 0], [], E, [], ⟨.nilSlice, trivial⟩, by simpa using hI, fun _ _ h => h, SlR.nil⟩
  · simp only [if_true] at hmm
    subst hmm
    rw [hc] at hel
    have hlen : len ≤ 140737488355328 := by
      have h1 := hw ((len + (m - len)) * P.bytesOf e) (by simp [DataW.weights, ht])
      have h2 : reachBytes ≤ 140737488355328 := by decide
      have h3 := Nat.mul_le_mul_left (len + (m - len)) hby
      omega
    have key : ∀ k, k ≤ len → ∃ l c F E' G, l.length = k ∧ (∀ j v, c[j]? = some v → ∃ v', W.cell? (a.add j) = some v' ∧ VR E' v v') ∧ Im E' (S ++ G) W ∧ (∀ id l, E id = some l → E' id = some l) ∧ RepL R (S ++ G) l c F := by
      intro k
      induction k with
      | zero => exact fun _ => ⟨[], [], [], E, [], rfl, fun j v h => by simp at h, by simpa using hI, fun _ _ h => h, rfl, rfl⟩
      | succ k ih =>
        intro hk
        obtain ⟨l, c, F, E1, G1, h1, h2, h3, h4, h5⟩ := ih (by omega)
        obtain ⟨cs', hcs, hd⟩ := hel k (by omega)
        obtain ⟨_, hcl, hcc⟩ := World.cells?_some hcs
        obtain ⟨x, cx, Fx, E2, G2, g1, g2, g3, g4⟩ := h hd (fun n hn => hw n (by
          simp only [DataW.weights, ht]
          exact List.mem_cons_of_mem _ (List.mem_append_left _ (mem_weightsAll (List.mem_map_of_mem (List.mem_range.2 (show k < len by omega))) n hn)))) h3
        refine ⟨l ++ [x], c ++ cx, F ++ Fx, E2, G1 ++ G2, by simp [h1], fun j v hj => ?_, by rw [← List.append_assoc]; exact g2, fun id l he => g3 id l (h4 id l he), ?_⟩
        · rcases Nat.lt_or_ge j c.length with hlt | hge
          · rw [List.getElem?_append_left hlt] at hj
            obtain ⟨v', q1, q2⟩ := h2 j v hj
            exact ⟨v', q1, q2.mono g3⟩
          · rw [List.getElem?_append_right hge] at hj
            obtain ⟨b, hb, hv⟩ := g1.get hj
            have hjl : j - c.length < sz := by
              have := (List.getElem?_eq_some_iff.1 hb).1
              omega
            refine ⟨b, ?_, hv⟩
            have := hcc (j - c.length) hjl
            rw [add_add, hb] at this
            have hcl2 := RepL.len (sz := sz) h5
            rw [h1] at hcl2
            rw [← this]
            congr 2
            omega
        · rw [← List.append_assoc]
          exact (RepL.fr h5 fun i hi => get_ext (RepL.lt h5 i hi)).append (RepL.single g4)
    obtain ⟨l, c, F, E1, G1, h1, h2, h3, h4, h5⟩ := key len (Nat.le_refl _)
    rcases Nat.eq_zero_or_pos len with h0 | h0
    · subst h0
      exact ⟨[], [hollowV], [], E, [], ⟨.hollow _ _, trivial⟩, by simpa using hI, fun _ _ h => h, by simp, _, rfl, .inl ⟨rfl, rfl, .inr (.inl ⟨rfl, rfl⟩)⟩⟩
    · have hcl := RepL.len (sz := sz) h5
      rw [h1] at hcl
      have hcell : ∀ j, j < m * sz → ∃ v, W.cell? (a.add j) = some v := by
        intro j hj
        have hd := Nat.div_add_mod j sz
        have hlt : j / sz < m := Nat.div_lt_of_lt_mul (by rw [Nat.mul_comm]; exact hj)
        obtain ⟨cs', hcs, _⟩ := hel (j / sz) hlt
        obtain ⟨_, hcl, hcc⟩ := World.cells?_some hcs
        have := hcc (j % sz) (Nat.mod_lt _ hpos)
        rw [add_add, Nat.mul_comm, hd] at this
        exact ⟨_, this.trans (List.getElem?_eq_getElem (by rw [hcl]; exact Nat.mod_lt _ hpos))⟩
      have hm0 : 0 < m * sz := Nat.mul_pos (by omega) hpos
      obtain ⟨v0, hv0⟩ := hcell 0 hm0
      obtain ⟨v1, hv1⟩ := hcell (m * sz - 1) (by omega)
      have hadd0 : a.add 0 = a := by simp [Addr.add]
      rw [hadd0] at hv0
      obtain ⟨blk, off, spot⟩ := a
      unfold World.cell? at hv0
      split at hv0
      · rename_i c' e' fr hblk
        dsimp only at hblk
        split at hv0
        · cases hv0
        · rename_i hsp
          have hspot : spot = none := by simpa using hsp
          subst hspot
          have hcw : ∀ j, W.cell? (Addr.add ⟨blk, off, none⟩ j) = c'[off + j]? := by
            intro j
            unfold World.cell? Addr.add
            by_cases hj : j = 0
            · simp [hj, hblk]
            · simp [hj, hblk]
          rw [hcw] at hv1
          have hroom := (Array.getElem?_eq_some_iff.1 hv1).1
          have hle : len * sz ≤ m * sz := Nat.mul_le_mul_right _ hl
          obtain ⟨E2, q1, q2, q3⟩ := h3.add hblk (off := off) (cs := c) (by omega) (fun i v hi => by
            obtain ⟨v', w1, w2⟩ := h2 i v hi
            rw [hcw] at w1
            exact ⟨v', w1, w2⟩) 0 (1, 1) (by simp)
          refine ⟨l, [.slice (some ⟨(S ++ G1).length, 0, none⟩) l.length sz], (S ++ G1).length :: F, E2, G1 ++ [⟨.cells c.toArray 0 (1, 1), true, false⟩], ⟨?_, trivial⟩, by rw [← List.append_assoc]; exact q1, fun id l he => q2 id l (h4 id l he), ?_⟩
          · rw [h1]
            exact VR.slice (l := ⟨blk, off, c'.size⟩) 0 len sz m q3 hl (by dsimp only; omega)
          · rw [← List.append_assoc]
            exact SlR.lit (own := false) (c := c) (e := 0) (f := (1, 1)) (o := false) (by rw [List.getElem?_append_right (Nat.le_refl _)]; simp) (RepL.fr h5 fun i hi => get_ext (RepL.lt h5 i hi)) (by rw [h1]; exact hlen) (fun h => by cases h)
      · cases hv0

/-- Two things, one behind the other. -/
def PrR {α β : Type} (R1 : RepT α) (R2 : RepT β) : RepT (α × β) := fun H x c F => ∃ c1 c2 F1 F2, c = c1 ++ c2 ∧ F = F1 ++ F2 ∧ R1 H x.1 c1 F1 ∧ R2 H x.2 c2 F2
def unitR : RepT Unit := fun _ _ c F => c = [] ∧ F = []

/-- The readings of cells that lie one behind the other. -/
def RdFs (P : Program) (ts : List TypeId) {α : Type} (R : RepT α) : Prop :=
  ∀ ⦃Hh : Type⦄ ⦃enc : TypeId × Value → Hh⦄ ⦃W : World⦄ ⦃fuel : Nat⦄ ⦃css : List (List Value)⦄ ⦃xs : List (DataW Hh × List MemPlace)⦄, css.length = ts.length → xs.length = ts.length →
    (∀ (i : Nat) (t : TypeId) (cs : List Value) (x : DataW Hh × List MemPlace), ts[i]? = some t → css[i]? = some cs → xs[i]? = some x → DataW.trod enc P W 0 (fun _ => true) true fuel t cs = some x) → (∀ n ∈ DataW.weightsEach P ts (xs.map (·.1)), n ≤ reachBytes) →
    ∀ ⦃E : Emb⦄ ⦃S : Heap⦄, Im E S W → ∃ a cs' F E' G, VL E' cs' css.flatten ∧ Im E' (S ++ G) W ∧ (∀ id l, E id = some l → E' id = some l) ∧ R (S ++ G) a cs' F

theorem RdFs.nil {P : Program} : RdFs P [] unitR := by
  intro Hh enc W fuel css xs h1 h2 h3 h4 E S hI
  obtain rfl : css = [] := by simpa using h1
  exact ⟨(), [], [], E, [], trivial, by simpa using hI, fun _ _ h => h, rfl, rfl⟩
theorem RdFs.cons {P : Program} {t : TypeId} {ts : List TypeId} {α β : Type} {R1 : RepT α} {R2 : RepT β} {sz : Nat} [hRp : Rp R1 sz] (h : Rd P t R1) (h' : RdFs P ts R2) : RdFs P (t :: ts) (PrR R1 R2) := by
  intro Hh enc W fuel css xs h1 h2 h3 h4 E S hI
  obtain ⟨cs, css, rfl⟩ : ∃ a b, css = a :: b := by cases css with | nil => simp at h1 | cons a b => exact ⟨a, b, rfl⟩
  obtain ⟨x, xs, rfl⟩ : ∃ a b, xs = a :: b := by cases xs with | nil => simp at h2 | cons a b => exact ⟨a, b, rfl⟩
  obtain ⟨a, c1, F1, E1, G1, q1, q2, q3, q4⟩ := h (h3 0 t cs x rfl rfl rfl) (fun n hn => h4 n (by simp only [List.map_cons, DataW.weightsEach]; exact List.mem_append_left _ hn)) hI
  obtain ⟨b, c2, F2, E2, G2, w1, w2, w3, w4⟩ := h' (css := css) (xs := xs) (by simpa using h1) (by simpa using h2) (fun i t' cs' x' a1 a2 a3 => h3 (i + 1) t' cs' x' (by simpa using a1) (by simpa using a2) (by simpa using a3))
    (fun n hn => h4 n (by simp only [List.map_cons, DataW.weightsEach]; exact List.mem_append_right _ hn)) q2
  refine ⟨(a, b), c1 ++ c2, F1 ++ F2, E2, G1 ++ G2, (q1.mono w3).append w1, by rw [← List.append_assoc]; exact w2, fun id l he => w3 id l (q3 id l he), c1, c2, F1, F2, rfl, rfl, ?_, by rw [← List.append_assoc]; exact w4⟩
  rw [← List.append_assoc]
  exact Ext.rp q4 (Ext.app _ _)

/-- The fields lie one behind the other. -/
def layB (P : Program) : Nat → List Field → Option Nat
  | o, [] => some o
  | o, f :: fs => if f.offset = o then layB P (o + P.cellsOf f.type) fs else none

theorem layB_pieces {P : Program} : ∀ {fs : List Field} {o m : Nat} {cs : List Value}, layB P o fs = some m → cs.length = m → (fs.map fun f => (cs.drop f.offset).take (P.cellsOf f.type)).flatten = cs.drop o
  | [], o, m, cs, h, hc => by
    simp only [layB, Option.some.injEq] at h
    subst h
    simp [← hc]
  | f :: fs, o, m, cs, h, hc => by
    simp only [layB] at h
    split at h
    · rename_i ho
      have ih := layB_pieces h hc
      rw [List.map_cons, List.flatten_cons, ih, ho, ← List.drop_drop, List.take_append_drop]
    · cases h

theorem Rd.struct {P : Program} {t : TypeId} {fs : Array Field} {α : Type} {R : RepT α} (ht : P.underlying t = some (.struct fs)) (hl : layB P 0 fs.toList = some (P.cellsOf t)) (h : RdFs P (fs.toList.map (·.type)) R) : Rd P t R := by
  intro Hh enc W fuel cs x hx hw E S hI
  obtain ⟨xs, n, rfl, rfl, hlen, hxl, hf⟩ := DataW.trod_struct ht hx
  have := h (enc := enc) (W := W) (fuel := n) (css := fs.toList.map fun f => (cs.drop f.offset).take (P.cellsOf f.type)) (xs := xs) (by simp) (by simpa using hxl) (fun i t' cs' x' a1 a2 a3 => by
    rw [List.getElem?_map] at a1 a2
    obtain ⟨f, b1, rfl⟩ := Option.map_eq_some_iff.1 a1
    rw [b1] at a2
    obtain rfl := Option.some.inj a2
    rw [← a3]
    exact hf i f (by simpa using b1)) (fun m hm => hw m (by simp only [DataW.weights, ht]; exact hm)) hI
  rwa [layB_pieces hl hlen, List.drop_zero] at this
end Go.Am

import Derived.Test.YtehhjbomdohgoabShelf
import Derived.Test.YtehhjbomdohgoabDat2
import Derived.Test.YtehhjbomdohgoabAm29
import Derived.Test.YtehhjbomdohgoabSpec
import Derived.Test.YtehhjbomdohgoabStr
import Derived.Test.YtehhjbomdohgoabAm28
import Derived.Test.YtehhjbomdohgoabAcc
import Derived.Test.YtehhjbomdohgoabAccN
/- Sorting names. No condition. -/
set_option linter.unusedSimpArgs false
set_option linter.unusedVariables false
namespace Go.Proofs.Ytehhjbomdohgoab
open Go Go.Am Go.Proofs
set_option maxRecDepth 20000
variable {ng : Nat}
abbrev nmR : RepT (List UInt8) := strR
abbrev NmsR (own : Bool) : RepT (List (List UInt8)) := SlR own 1 nmR
theorem nms_cells {H : Heap} : ∀ {l : List (List UInt8)} {c : List Value} {F : List Nat}, RepL nmR H l c F → c = l.map (fun s => .string ⟨⟨s⟩⟩) ∧ F = [] ∧ ∀ x ∈ l, okS x
  | [], _, _, ⟨rfl, rfl⟩ => ⟨rfl, rfl, by simp⟩
  | x :: l, _, _, ⟨c1, c2, F1, F2, rfl, rfl, h1, h2⟩ => by
    obtain ⟨rfl, rfl, h⟩ := nms_cells h2
    obtain ⟨rfl, rfl, hx⟩ := h1
    exact ⟨by simp, rfl, fun y hy => (List.mem_cons.1 hy).elim (fun e => e ▸ hx) (h y)⟩
theorem cells_nms {H : Heap} : ∀ {l : List (List UInt8)}, (∀ x ∈ l, okS x) → RepL nmR H l (l.map (fun s => .string ⟨⟨s⟩⟩)) []
  | [], _ => ⟨rfl, rfl⟩
  | x :: l, h => ⟨[.string ⟨⟨x⟩⟩], _, [], [], rfl, rfl, ⟨rfl, rfl, h x (by simp)⟩, cells_nms fun y hy => h y (by simp [hy])⟩
/-- A world that has more blocks. -/
theorem rel_grow {E : Emb} {S : Heap} {w : World} (n : Nat) (h : Rel ng E S w) (os : Array Obj) : Rel ng E S (Sort.grow w os) ∧ Grow n E S w E S (Sort.grow w os) := by
  have hk : ∀ b, b < w.heap.size → (Sort.grow w os).heap[b]? = w.heap[b]? := fun b hb => by
    show (w.heap ++ os)[b]? = _
    rw [Array.getElem?_append_left hb]
  refine ⟨⟨fun id l he => ?_, h.apart, h.glob⟩, ⟨fun _ _ => rfl, rfl, rfl, rfl, by simp, fun b hb _ => hk b hb, fun id l bl h1 h2 h3 h4 _ => ⟨id, l, bl, h1, h2, h3, h4, rfl⟩⟩⟩
  obtain ⟨b, h1, h2, h3⟩ := h.blk id l he
  exact ⟨b, h1, by simp; omega, fun hl => (h3 hl).congr (hk _ h2)⟩
theorem sort_ac {l : List (List UInt8)} {s : Value} {F : List Nat} {H : Heap} (hs : NmsR true H l [s] F) :
    AC Try.prog ng 29 [s] H fun v S' => v = .tuple #[] ∧ NmsR true S' (l.mergeSort fun x y => decide (x ≤ y)) [s] F ∧ S'.length = H.length ∧ ∀ j, j ∉ F → S'[j]? = H[j]? := by
  intro E args' w hv hr hng
  obtain ⟨hsz, hvr⟩ := hv
  simp only [List.length_cons, List.length_nil] at hsz
  have hv0 := hvr 0 (by simp) (by omega)
  have hargs : args' = #[args'[0]'(by omega)] := by
    apply Array.ext
    · simp; omega
    · intro i h1 h2
      obtain rfl : i = 0 := by simpa using h2
      rfl
  rw [hargs]
  simp only [List.getElem_cons_zero] at hv0
  generalize args'[0]'(by omega) = a at hv0 ⊢
  obtain ⟨hbd, s', hs', hh⟩ := id hs
  obtain rfl : s = s' := by simpa using hs'
  rcases hh with ⟨rfl, rfl, h3 | ⟨h0, _⟩ | ⟨h0, _⟩⟩ | ⟨id, off, c, e, f, o, G, rfl, hb, ho, rfl, hle, hrp⟩
  · subst h3
    cases hv0
    refine (Try.slices_Sort_string_none none 0 w).mono ?_
    rintro ex w' ⟨rfl, rfl⟩
    exact ⟨.tuple #[], .tuple #[], H, E, rfl, ⟨rfl, by simpa using hs, rfl, fun _ _ => rfl⟩, .tuple rfl (fun i h => by simp at h), hr, Nat.le_refl _, Grow.refl _ _ _ _⟩
  · cases h0
  · cases h0
  · obtain rfl := ho rfl
    cases hv0 with
    | slice _ _ _ cap he hc hroom =>
      rename_i lc
      obtain ⟨b0, hb', hlt, hob⟩ := hr.blk _ _ he
      rw [hb] at hb'
      obtain rfl := Option.some.inj hb'
      obtain ⟨c', e', fr, hw, hrm, hbase, hcell, hfr⟩ := hob rfl
      obtain ⟨hcs, rfl, hok⟩ := nms_cells hrp
      obtain ⟨L, hL⟩ : ∃ L, L = l.mergeSort fun x y => decide (x ≤ y) := ⟨_, rfl⟩
      have hLl : L.length = l.length := by rw [hL]; simp
      have hLo : ∀ x ∈ L, okS x := fun x hx => hok x (by rw [hL] at hx; simpa using hx)
      have hcv : ∀ j (hj : j < l.length), c[off + j]? = some (.string ⟨⟨l[j]⟩⟩) := fun j hj => by
        have h1 := seg_get (c := c) (off := off) (n := l.length * 1) (i := j) (by omega)
        rw [hcs] at h1
        rw [← h1]
        simp [hj]
      have hH : Sort.Holds encStr w lc.blk (lc.base + off) l.toArray := by
        intro j hj
        have hj' : j < l.length := by simpa using hj
        have hjc : off + j < c.size := by omega
        obtain ⟨v', g1, g2⟩ := hcell (off + j) hjc
        have g3 := hcv j hj'
        rw [Array.getElem?_eq_getElem hjc] at g3
        rw [Option.some.inj g3] at g2
        have g4 : v' = .string ⟨⟨l[j]⟩⟩ := by cases g2; rfl
        subst g4
        refine ⟨?_, ?_⟩
        · simp only [World.cell?, hw]
          rw [show lc.base + off + j = lc.base + (off + j) by omega, g1]
          simp [hj']
        · have := hfr rfl (lc.base + off + j) (by omega)
          simp only [World.frozen?, hw]
          simpa using this
      refine (Try.slices_Sort_string lc.blk (lc.base + off) cap l w hH hlt (by omega)).mono ?_
      rintro ex w' ⟨rfl, n, os, rfl⟩
      rw [← hL]
      obtain ⟨W, hW⟩ : ∃ W, W = Sort.putRow encStr (Sort.ahead w n) lc.blk (lc.base + off) L.toArray := ⟨_, rfl⟩
      rw [← hW]
      have hWh : W.heap = w.heap.modify lc.blk (Sort.onCells (Sort.putCells encStr (lc.base + off) L.toArray)) := by rw [hW]; rfl
      have hWs : W.heap.size = w.heap.size := by rw [hWh]; simp
      have hWo : ∀ k, k ≠ lc.blk → W.heap[k]? = w.heap[k]? := fun k hk => by
        rw [hWh, Array.getElem?_modify, if_neg (Ne.symm hk)]
      have hWb : W.heap[lc.blk]? = some (.cells (Sort.putCells encStr (lc.base + off) L.toArray c') e' fr) := by
        rw [hWh, Array.getElem?_modify, if_pos rfl, hw]
        rfl
      have hset := hr.set (w' := W) (b' := ⟨.cells (setL c off (L.map fun s => .string ⟨⟨s⟩⟩)) e f, true, true⟩) he hb rfl rfl hWs hWo rfl fun _ => by
        refine ⟨_, e', fr, hWb, by rw [hrm]; simp [Sort.putCells], by rw [setL_size]; exact hbase, fun i hi => ?_, hfr⟩
        rw [setL_size] at hi
        have hci : (setL c off (L.map fun s => (.string ⟨⟨s⟩⟩ : Value)))[i]? = if off ≤ i ∧ i < off + (L.map fun s => (.string ⟨⟨s⟩⟩ : Value)).length then (L.map fun s => (.string ⟨⟨s⟩⟩ : Value))[i - off]? else c[i]? := setL_get _ _ _ _ (by simp; omega)
        obtain ⟨v', g1, g2⟩ := hcell i hi
        have hpc : (Sort.putCells encStr (lc.base + off) L.toArray c')[lc.base + i]? = some (if lc.base + off ≤ lc.base + i ∧ lc.base + i < lc.base + off + L.toArray.size then encStr L.toArray[lc.base + i - (lc.base + off)]! else v') := by
          simp only [Sort.putCells, Array.getElem?_mapIdx, g1, Option.map_some]
        refine ⟨_, hpc, ?_⟩
        rw [Array.getElem?_eq_getElem (by rw [setL_size]; exact hi)] at hci
        by_cases hin : off ≤ i ∧ i < off + L.length
        · rw [if_pos (by simpa using hin), List.getElem?_eq_getElem (by simp; omega)] at hci
          rw [Option.some.inj hci, if_pos (by simp; omega)]
          have e9 : lc.base + i - (lc.base + off) = i - off := by omega
          rw [e9, List.getElem_map]
          have : L.toArray[i - off]! = L[i - off] := by
            rw [getElem!_pos L.toArray (i - off) (by simp; omega)]
            simp
          rw [this]
          exact .string _
        · rw [if_neg (by simpa using hin), Array.getElem?_eq_getElem hi] at hci
          rw [Option.some.inj hci, if_neg (by simp; omega)]
          exact g2
      obtain ⟨r1, r2⟩ := rel_grow (ng := ng) H.length hset os
      have hg : Grow H.length E H w E _ W := Grow.set _ (b' := ⟨.cells (setL c off (L.map fun s => .string ⟨⟨s⟩⟩)) e f, true, true⟩) he hb rfl rfl hWs hWo (by rw [hW]; rfl) (by rw [hW]; rfl) (by rw [hW]; rfl)
      have hidl := (List.getElem?_eq_some_iff.1 hb).1
      refine ⟨.tuple #[], .tuple #[], _, E, rfl, ⟨rfl, ?_, by simp, fun j hj => List.getElem?_set_ne (by simpa using fun h => hj (by simp [h]))⟩, .tuple rfl (fun i h => by simp at h), r1, by simp, hg.trans (m := H.length) (Nat.le_refl _) r2⟩
      have hsg : seg (setL c off (L.map fun s => (.string ⟨⟨s⟩⟩ : Value))) off (L.length * 1) = L.map fun s => .string ⟨⟨s⟩⟩ := by
        apply List.ext_getElem?
        intro j
        by_cases hj : j < L.length
        · rw [seg_get (by omega), setL_get _ _ _ _ (by simp; omega), if_pos (by simp; omega)]
          congr 1; omega
        · rw [List.getElem?_eq_none (by rw [seg_length (by rw [setL_size]; omega)]; omega), List.getElem?_eq_none (by simp; omega)]
      refine ⟨by omega, _, rfl, .inr ⟨id, off, _, e, f, true, [], by rw [hLl], List.getElem?_set_self hidl, fun _ => rfl, rfl, by rw [setL_size, hLl]; exact hle, ?_⟩⟩
      rw [hsg]
      exact cells_nms hLo
end Go.Proofs.Ytehhjbomdohgoab

/- Ascending lists of texts, as sets. No condition. -/
namespace Go.Am
open Go
set_option linter.unusedSimpArgs false
set_option linter.unusedVariables false

def Asc (l : List (List UInt8)) : Prop := l.Pairwise fun a b => ltS a b = true
/-- How many are lesser, at the front. -/
def lowN (l : List (List UInt8)) (x : List UInt8) : Nat := (l.takeWhile fun y => ltS y x).length
/-- Put in, once. -/
def insS (l : List (List UInt8)) (x : List UInt8) : List (List UInt8) := if l[lowN l x]? = some x then l else l.take (lowN l x) ++ x :: l.drop (lowN l x)
/-- The members, in order, each once. -/
def setOf (xs : List (List UInt8)) : List (List UInt8) := xs.foldl insS []
theorem lowN_le (l : List (List UInt8)) (x : List UInt8) : lowN l x ≤ l.length := (List.takeWhile_prefix _).length_le
theorem lowN_eq {l : List (List UInt8)} {x : List UInt8} {k : Nat} (hk : k ≤ l.length) (h1 : ∀ j (hj : j < l.length), j < k → ltS l[j] x = true) (h2 : ∀ h : k < l.length, ltS l[k] x = false) : lowN l x = k := by
  unfold lowN
  induction l generalizing k with
  | nil => simp at hk; simp [hk]
  | cons a l ih =>
    cases k with
    | zero =>
      have := h2 (by simp)
      simp at this
      simp [List.takeWhile_cons, this]
    | succ k =>
      have h0 := h1 0 (by simp) (by omega)
      simp at h0
      rw [List.takeWhile_cons, if_pos (by simpa using h0), List.length_cons, ih (k := k) (by simpa using hk) (fun j hj hlt => by have := h1 (j + 1) (by simpa using hj) (by omega); simpa using this) (fun h => by have := h2 (by simpa using h); simpa using this)]
theorem takeW_take (l : List (List UInt8)) (x : List UInt8) : l.take (lowN l x) = l.takeWhile fun y => ltS y x := by
  unfold lowN
  exact (List.prefix_iff_eq_take.1 (List.takeWhile_prefix _)).symm
theorem insS_mem (l : List (List UInt8)) (x y : List UInt8) : y ∈ insS l x ↔ y ∈ l ∨ y = x := by
  unfold insS
  split
  · rename_i h
    refine ⟨.inl, fun hh => hh.elim id fun e => e ▸ ?_⟩
    obtain ⟨h1, h2⟩ := List.getElem?_eq_some_iff.1 h
    exact h2 ▸ List.getElem_mem h1
  · rw [List.mem_append, List.mem_cons]
    conv => rhs; lhs; rw [← List.take_append_drop (lowN l x) l]
    rw [List.mem_append]
    constructor
    · rintro (h | h | h)
      · exact .inl (.inl h)
      · exact .inr h
      · exact .inl (.inr h)
    · rintro ((h | h) | h)
      · exact .inl h
      · exact .inr (.inr h)
      · exact .inr (.inl h)
theorem insS_asc {l : List (List UInt8)} (h : Asc l) (x : List UInt8) : Asc (insS l x) := by
  unfold insS
  split
  · exact h
  · rename_i hne
    have hsp : Asc (l.take (lowN l x) ++ l.drop (lowN l x)) := by rw [List.take_append_drop]; exact h
    unfold Asc at hsp ⊢
    rw [List.pairwise_append] at hsp ⊢
    obtain ⟨h1, h2, h3⟩ := hsp
    have hlow : ∀ a ∈ l.take (lowN l x), ltS a x = true := by
      intro a ha
      rw [takeW_take] at ha
      exact List.all_eq_true.1 (List.all_takeWhile (l := l) (p := fun y => ltS y x)) a ha
    have hhigh : ∀ a ∈ l.drop (lowN l x), ltS x a = true := by
      intro a ha
      rcases Nat.lt_or_ge (lowN l x) l.length with hk | hk
      · have hd := List.drop_eq_getElem_cons hk
        have hz : ltS l[lowN l x] x = false := by
          have hnt := List.head?_dropWhile_not (p := fun y => ltS y x) (l := l)
          have hdw : l.dropWhile (fun y => ltS y x) = l.drop (lowN l x) := by
            have e1 := List.takeWhile_append_dropWhile (p := fun y => ltS y x) (l := l)
            have e2 := List.take_append_drop (lowN l x) l
            rw [takeW_take] at e2
            exact List.append_cancel_left (e1.trans e2.symm)
          rw [hdw, hd] at hnt
          simpa [hk] using hnt
        have hx0 : ltS x l[lowN l x] = true := ltS_total hz fun hc => hne (by rw [List.getElem?_eq_getElem hk, hc])
        rw [hd] at ha h2
        rcases List.mem_cons.1 ha with rfl | ha
        · exact hx0
        · exact ltS_trans hx0 ((List.pairwise_cons.1 h2).1 a ha)
      · rw [List.drop_of_length_le hk] at ha
        cases ha
    refine ⟨h1, List.pairwise_cons.2 ⟨hhigh, h2⟩, fun a ha b hb => ?_⟩
    rcases List.mem_cons.1 hb with rfl | hb
    · exact hlow a ha
    · exact h3 a ha b hb
theorem foldl_ins (xs : List (List UInt8)) : ∀ l, Asc l → Asc (xs.foldl insS l) ∧ ∀ y, y ∈ xs.foldl insS l ↔ y ∈ l ∨ y ∈ xs := by
  induction xs with
  | nil => intro l h; exact ⟨h, by simp⟩
  | cons x xs ih =>
    intro l h
    obtain ⟨h1, h2⟩ := ih (insS l x) (insS_asc h x)
    refine ⟨h1, fun y => ?_⟩
    rw [List.foldl_cons, h2, insS_mem, List.mem_cons, or_assoc]
theorem setOf_asc (xs : List (List UInt8)) : Asc (setOf xs) := (foldl_ins xs [] List.Pairwise.nil).1
theorem setOf_mem (xs : List (List UInt8)) (y : List UInt8) : y ∈ setOf xs ↔ y ∈ xs := by
  have := (foldl_ins xs [] List.Pairwise.nil).2 y
  simpa [setOf] using this
theorem Asc.nodup {l : List (List UInt8)} (h : Asc l) : l.Nodup := h.imp fun {a b} hab hc => by subst hc; rw [ltS_irrefl] at hab; cases hab
theorem Asc.uniq {l l' : List (List UInt8)} (h : Asc l) (h' : Asc l') (hm : ∀ y, y ∈ l ↔ y ∈ l') : l = l' := by
  have hp : l.Perm l' := (List.perm_ext_iff_of_nodup h.nodup h'.nodup).2 hm
  refine List.Perm.eq_of_pairwise (le := fun a b => ltS a b = true) (fun a b _ _ h1 h2 => ?_) h h' hp
  have := ltS_trans h1 h2
  rw [ltS_irrefl] at this
  cases this
theorem setOf_uniq {l xs : List (List UInt8)} (h : Asc l) (hm : ∀ y, y ∈ l ↔ y ∈ xs) : l = setOf xs := h.uniq (setOf_asc xs) fun y => by rw [hm, setOf_mem]
theorem setOf_congr {xs ys : List (List UInt8)} (hm : ∀ y, y ∈ xs ↔ y ∈ ys) : setOf xs = setOf ys := setOf_uniq (setOf_asc xs) fun y => by rw [setOf_mem, hm]
theorem setOf_snoc (xs : List (List UInt8)) (x : List UInt8) : setOf (xs ++ [x]) = insS (setOf xs) x := by simp [setOf]
/-- The names of a set, sorted. -/
theorem sort_setOf {l o xs : List (List UInt8)} (hn : l.Nodup) (hm : ∀ y, y ∈ l ↔ y ∈ xs) (hp : o.Perm l) : (o.mergeSort fun x y => decide (x ≤ y)) = setOf xs := by
  have hs : (o.mergeSort fun x y => decide (x ≤ y)).Pairwise fun a b => decide (a ≤ b) = true :=
    List.pairwise_mergeSort (fun a b c h1 h2 => by simp only [decide_eq_true_eq] at *; exact List.le_trans h1 h2) (fun a b => by simp only [Bool.or_eq_true, decide_eq_true_eq]; exact List.le_total a b) o
  have hpm := (List.mergeSort_perm o fun x y => decide (x ≤ y)).trans hp
  refine setOf_uniq ?_ fun y => (hpm.mem_iff).trans (hm y)
  have hnd : (o.mergeSort fun x y => decide (x ≤ y)).Nodup := hpm.nodup_iff.2 hn
  refine List.Pairwise.imp₂ (fun a b h1 h2 => ?_) hs hnd
  simp only [decide_eq_true_eq] at h1
  rw [ltS_iff]
  rcases Decidable.em (b ≤ a) with h3 | h3
  · exact absurd (List.le_antisymm h1 h3) h2
  · exact List.not_le.1 h3
theorem setOf_len (xs : List (List UInt8)) : (setOf xs).length ≤ xs.length := nodup_len (setOf_asc xs).nodup fun k hk => (setOf_mem xs k).1 hk
where nodup_len {α : Type} [DecidableEq α] : ∀ {u L : List α}, u.Nodup → (∀ k ∈ u, k ∈ L) → u.length ≤ L.length
  | [], _, _, _ => Nat.zero_le _
  | a :: u, L, hn, hs => by
    have hn' := List.nodup_cons.1 hn
    have ha := hs a (by simp)
    have ih := nodup_len (u := u) (L := L.erase a) hn'.2 fun k hk => (List.mem_erase_of_ne (by rintro rfl; exact hn'.1 hk)).2 (hs k (by simp [hk]))
    rw [List.length_erase_of_mem ha] at ih
    have := List.length_pos_of_mem ha
    simp only [List.length_cons]
    omega
end Go.Am

/- A text put into an ascending list. No condition. -/
set_option linter.unusedSimpArgs false
set_option linter.unusedVariables false
namespace Go.Proofs.Ytehhjbomdohgoab
open Go Go.Am Go.Proofs
set_option maxRecDepth 20000
variable {ng : Nat}
theorem l5Put_ac' {l : List (List UInt8)} {s : Value} {F : List Nat} {H : Heap} {x : List UInt8} {base : Nat} (hs : StrsR true H l [s] F) (hf : Fresh base F) (hb : base ≤ H.length) (hx : okS x) (hl : l.length ≤ 1000000000) :
    AC Try.prog ng 18 [s, str x] H fun v S' => ∃ F', Ext H S' ∧ StrsR true S' (insS l x) [v] F' ∧ Fresh base F' ∧ ∀ j ∈ F', j ∈ F ∨ H.length ≤ j := by
  obtain ⟨a, z, rfl⟩ := hs.form
  refine (AC.mono (Q := fun v S' => Ext H S' ∧ ∃ F', StrsR true S' (insS l x) [v] F' ∧ Fresh base F' ∧ ∀ j ∈ F', j ∈ F ∨ H.length ≤ j) ?_ fun v S' ⟨h1, F', h2, h3⟩ => ⟨F', h1, h2, h3⟩)
  refine AC.go [] Try.func18 rfl Try.ntmps18 rfl ⟨mixed, by kernel_rfl⟩ ?_
  simp +contextual (dsimp := false)
  refine LoopA.upc (σ := Nat) [0, 1, 5] (fun i => [(5, int i)]) (fun i => i ≤ l.length ∧ ∀ j (hj : j < l.length), j < i → ltS l[j] x = true) (fun i => l.length - i) 0 rfl (by simp) ?_
  rintro i ⟨hi, hv⟩
  have hlow : (∀ h : i < l.length, ltS l[i] x = false) → lowN l x = i := fun h => lowN_eq hi hv h
  obtain ⟨sl, Fl, hcl⟩ := hs.cut (P := Try.prog) (et := 9) 0 i (by omega) hi siz9
  obtain ⟨hcl, -, -, -, -, -, hsl⟩ := hcl (fun _ => rfl)
  obtain ⟨sr, Fr, hcr⟩ := hs.weak.cut (P := Try.prog) (et := 9) i l.length (by omega) (Nat.le_refl _) siz9
  obtain ⟨hcr, -, -, -, -, hsr, -⟩ := hcr (fun h => by cases h)
  have hsl := hsl rfl
  have hsr := hsr rfl
  rw [List.drop_zero] at hcl
  rw [List.take_length] at hcr
  obtain ⟨al, zl, rfl⟩ := hcl.form
  obtain ⟨ar, zr, rfl⟩ := hcr.form
  rw [List.length_take] at hcl hsl
  rw [List.length_drop] at hcr hsr
  simp +contextual (dsimp := false)
  refine ifA_dec (fun h3 => ?_) (fun h3 => ?_)
  · obtain ⟨id, o, c, e, f, ow, cs, Fi, E⟩ := SlR.get hs i h3
    obtain ⟨rfl, rfl, hok⟩ := E.rep
    simp +contextual (dsimp := false) [E.idx, E.goB, E.le, E.cell0, h3, wrap_succ (show i < 9223372036854775807 by omega)]
    refine ifA_intro (fun h4 => ?_) (fun h4 => ?_)
    · exact LoopN.of (i + 1) rfl ⟨h3, fun j hj hlt => by
        rcases Nat.lt_or_ge j i with h | h
        · exact hv j hj h
        · obtain rfl : j = i := by omega
          exact h4⟩ (by omega)
    · have hlow := hlow fun _ => h4
      refine ifA_dec (fun h5 => ?_) (fun h5 => ?_)
      · rw [insS, hlow, if_pos (by rw [List.getElem?_eq_getElem h3, h5])]
        exact ⟨F, hs, hf, fun j hj => .inl hj⟩
      · have hni : ¬ l[i]? = some x := by rw [List.getElem?_eq_getElem h3]; simpa using h5
        rw [hsl]
        simp +contextual (dsimp := false)
        refine AppK.many (R := strR) (base := base) (l2 := l.take i) slt26 und26 (SlR.mt (R := strR) (e := 9) (f := (0, 0)) (j := H.length) (by simp)) (Fresh.one hb) (Rp.ext hcl (Ext.app _ _)) (by rw [hcl.flatF]; exact Fresh.nil _) (by rw [hcl.flatF]; simp) (by simp; omega) (by simp; omega) (by decide) ?_
        intro s1 H1 F1 q1 q2 q3 q4 q5
        rw [List.nil_append] at q1
        obtain ⟨a1, z1, rfl⟩ := q1.form
        rw [List.length_take] at q1
        simp only [List.length_append, List.length_singleton] at q3 q4 q5
        have e1 : Ext H H1 := fun j hj => (q4 j (by omega) (by simp; omega)).trans (get_ext hj)
        simp +contextual (dsimp := false)
        refine AppK.one (R := strR) (ex := 9) (fx := (0, 0)) (ox := true) (base := base) (x := x) (cx := [str x]) (Fx := []) slt26 und26 (Rp.ext q1 (Ext.app _ _)) q2 (by simp) ⟨rfl, rfl, hx⟩ (Fresh.nil _) (by simp) (by simp; omega) (by simp; omega) (by decide) ?_
        intro s2 H2 F2 r1 r2 r3 r4 r5
        obtain ⟨a2, z2, rfl⟩ := r1.form
        simp only [List.length_append, List.length_take, List.length_cons, List.length_nil, Nat.zero_add] at r1
        simp only [List.length_append, List.length_singleton] at r3 r4 r5
        have hF1 : ∀ j, j < H.length → j ∉ F1 := fun j hj hm => by
          rcases q5 j hm with h | h | h
          · simp at h; omega
          · rw [hcl.flatF] at h; cases h
          · omega
        have e2 : Ext H H2 := fun j hj => (r4 j (by omega) (hF1 j hj)).trans ((get_ext (by omega)).trans (e1 j hj))
        simp +contextual (dsimp := false)
        rw [hsr]
        simp +contextual (dsimp := false)
        refine AppK.many (R := strR) (base := base) (l2 := l.drop i) slt26 und26 r1 r2 (Rp.ext hcr e2) (by rw [hcr.flatF]; exact Fresh.nil _) (by rw [hcr.flatF]; simp) (by omega) (by simp; omega) (by decide) ?_
        intro s3 H3 F3 t1 t2 t3 t4 t5
        obtain ⟨a3, z3, rfl⟩ := t1.form
        have hF2 : ∀ j, j < H.length → j ∉ F2 := fun j hj hm => by
          rcases r5 j hm with h | h | h
          · exact hF1 j hj h
          · cases h
          · omega
        simp +contextual (dsimp := false)
        have hnew : ∀ j ∈ F3, H.length ≤ j := fun j hj => by
          rcases t5 j hj with h | h | h
          · rcases Nat.lt_or_ge j H.length with hl' | hl'
            · exact absurd h (hF2 j hl')
            · exact hl'
          · rw [hcr.flatF] at h; cases h
          · omega
        refine ⟨fun j hj => (t4 j (by omega) (hF2 j hj)).trans (e2 j hj), F3, ?_, t2, fun j hj => .inr (hnew j hj)⟩
        have e3 : insS l x = l.take i ++ [x] ++ l.drop i := by
          rw [insS, hlow, if_neg hni]
          simp
        rw [e3, show min i l.length + (l.length - i + 1) = (l.take i ++ [x] ++ l.drop i).length by simp <;> omega]
        exact t1
  · have hlow := hlow fun h => absurd h h3
    have hni : ¬ l[i]? = some x := by rw [List.getElem?_eq_none (by omega)]; simp
    rw [hsl]
    simp +contextual (dsimp := false)
    refine AppK.many (R := strR) (base := base) (l2 := l.take i) slt26 und26 (SlR.mt (R := strR) (e := 9) (f := (0, 0)) (j := H.length) (by simp)) (Fresh.one hb) (Rp.ext hcl (Ext.app _ _)) (by rw [hcl.flatF]; exact Fresh.nil _) (by rw [hcl.flatF]; simp) (by simp; omega) (by simp; omega) (by decide) ?_
    intro s1 H1 F1 q1 q2 q3 q4 q5
    rw [List.nil_append] at q1
    obtain ⟨a1, z1, rfl⟩ := q1.form
    rw [List.length_take] at q1
    simp only [List.length_append, List.length_singleton] at q3 q4 q5
    have e1 : Ext H H1 := fun j hj => (q4 j (by omega) (by simp; omega)).trans (get_ext hj)
    simp +contextual (dsimp := false)
    refine AppK.one (R := strR) (ex := 9) (fx := (0, 0)) (ox := true) (base := base) (x := x) (cx := [str x]) (Fx := []) slt26 und26 (Rp.ext q1 (Ext.app _ _)) q2 (by simp) ⟨rfl, rfl, hx⟩ (Fresh.nil _) (by simp) (by simp; omega) (by simp; omega) (by decide) ?_
    intro s2 H2 F2 r1 r2 r3 r4 r5
    obtain ⟨a2, z2, rfl⟩ := r1.form
    simp only [List.length_append, List.length_take, List.length_cons, List.length_nil, Nat.zero_add] at r1
    simp only [List.length_append, List.length_singleton] at r3 r4 r5
    have hF1 : ∀ j, j < H.length → j ∉ F1 := fun j hj hm => by
      rcases q5 j hm with h | h | h
      · simp at h; omega
      · rw [hcl.flatF] at h; cases h
      · omega
    have e2 : Ext H H2 := fun j hj => (r4 j (by omega) (hF1 j hj)).trans ((get_ext (by omega)).trans (e1 j hj))
    simp +contextual (dsimp := false)
    rw [hsr]
    simp +contextual (dsimp := false)
    refine AppK.many (R := strR) (base := base) (l2 := l.drop i) slt26 und26 r1 r2 (Rp.ext hcr e2) (by rw [hcr.flatF]; exact Fresh.nil _) (by rw [hcr.flatF]; simp) (by omega) (by simp; omega) (by decide) ?_
    intro s3 H3 F3 t1 t2 t3 t4 t5
    obtain ⟨a3, z3, rfl⟩ := t1.form
    have hF2 : ∀ j, j < H.length → j ∉ F2 := fun j hj hm => by
      rcases r5 j hm with h | h | h
      · exact hF1 j hj h
      · cases h
      · omega
    simp +contextual (dsimp := false)
    have hnew : ∀ j ∈ F3, H.length ≤ j := fun j hj => by
      rcases t5 j hj with h | h | h
      · rcases Nat.lt_or_ge j H.length with hl' | hl'
        · exact absurd h (hF2 j hl')
        · exact hl'
      · rw [hcr.flatF] at h; cases h
      · omega
    refine ⟨fun j hj => (t4 j (by omega) (hF2 j hj)).trans (e2 j hj), F3, ?_, t2, fun j hj => .inr (hnew j hj)⟩
    have e3 : insS l x = l.take i ++ [x] ++ l.drop i := by
      rw [insS, hlow, if_neg hni]
      simp
    rw [e3, show min i l.length + (l.length - i + 1) = (l.take i ++ [x] ++ l.drop i).length by simp <;> omega]
    exact t1
theorem l5Put_ac {l : List (List UInt8)} {s : Value} {F : List Nat} {H : Heap} {x : List UInt8} {base : Nat} (hs : StrsR true H l [s] F) (hf : Fresh base F) (hb : base ≤ H.length) (hx : okS x) (hl : l.length ≤ 1000000000) :
    AC Try.prog ng 18 [s, str x] H fun v S' => ∃ F', Ext H S' ∧ StrsR true S' (insS l x) [v] F' ∧ Fresh base F' :=
  (l5Put_ac' hs hf hb hx hl).mono fun v S' ⟨F', h1, h2, h3, _⟩ => ⟨F', h1, h2, h3⟩
end Go.Proofs.Ytehhjbomdohgoab

/- What Sources, Names and Depends compute. No condition. -/
namespace Go.Am
open Go
set_option linter.unusedSimpArgs false
set_option linter.unusedVariables false

def srcNames (ds : List Deed) : List (List UInt8) := (ds.filter fun d => decide (d.kind = 1)).map (·.name)
def sourcesOf (ds : List Deed) : List (List UInt8) := if accOk ds then setOf (srcNames ds) else []
def allNames (ds : List Deed) : List (List UInt8) := ds.flatMap fun d => d.name :: d.links.map (·.name)
def namesOf (ds : List Deed) : List (List UInt8) := if accOk ds then setOf (allNames ds) else []
theorem srcNames_len (ds : List Deed) : (srcNames ds).length ≤ ds.length := by
  simp only [srcNames, List.length_map]
  exact List.length_filter_le _ _
theorem accOk_len {ds : List Deed} (h : accOk ds = true) : ds.length ≤ 400 ∧ 1 ≤ ds.length := by
  simp only [accOk, decide_eq_true_eq] at h
  unfold checkAcc at h
  split at h
  · cases h
  · omega
theorem accOk_deeds {ds : List Deed} (h : accOk ds = true) : ∀ i, i < ds.length → deedOk ds i (dAt ds i) = true := by
  simp only [accOk, decide_eq_true_eq] at h
  unfold checkAcc at h
  split at h
  · cases h
  · split at h
    · cases h
    · rename_i hn
      intro i hi
      have := firstI_no hn i hi
      simpa using this
theorem accOk_nodup {ds : List Deed} (h : accOk ds = true) : (ds.map (·.name)).Nodup := by
  have h' := h
  simp only [accOk, decide_eq_true_eq] at h
  unfold checkAcc at h
  split at h
  · cases h
  · split at h
    · cases h
    · split at h
      · cases h
      · rename_i hn
        have hd : ∀ j, j < ds.length → (dAt ds j).name ∉ (ds.take j).map (·.name) := fun j hj => by
          have := firstI_no hn j hj
          simpa [dup] using this
        rw [List.nodup_iff_pairwise_ne, List.pairwise_iff_getElem]
        intro i j hi hj hij he
        simp only [List.length_map] at hi hj
        refine hd j hj ?_
        rw [dAt_lt hj]
        simp only [List.getElem_map] at he
        rw [← he]
        refine List.mem_map.2 ⟨ds[i], ?_, rfl⟩
        rw [List.mem_take_iff_getElem]
        exact ⟨i, by omega, rfl⟩
theorem linkOk_len {ds : List Deed} {i : Nat} {d : Deed} (h : deedOk ds i d = true) : d.links.length ≤ 200 := by
  simp only [deedOk, Bool.and_eq_true] at h
  obtain ⟨_, h3⟩ := h
  split at h3
  · simp only [plainD, Bool.and_eq_true, decide_eq_true_eq] at h3; omega
  · split at h3
    · simp only [plainD, Bool.and_eq_true, decide_eq_true_eq] at h3; omega
    · split at h3
      · simp only [Bool.and_eq_true, decide_eq_true_eq] at h3; omega
      · cases h3
theorem linkOk_name {ds : List Deed} {i : Nat} {d : Deed} (h : deedOk ds i d = true) {l : Lnk} (hl : l ∈ d.links) (ha : l.ask = true) : (dAt ds l.at_.toNat).name = l.name := by
  simp only [deedOk, Bool.and_eq_true] at h
  obtain ⟨_, h3⟩ := h
  split at h3
  · simp only [plainD, Bool.and_eq_true, decide_eq_true_eq] at h3
    rw [List.eq_nil_of_length_eq_zero h3.2] at hl
    cases hl
  · split at h3
    · simp only [plainD, Bool.and_eq_true, decide_eq_true_eq] at h3
      rw [List.eq_nil_of_length_eq_zero h3.1.2] at hl
      cases hl
    · split at h3
      · simp only [Bool.and_eq_true] at h3
        have h4 := List.all_eq_true.1 h3.2 l hl
        simp only [linkOk, Bool.and_eq_true, ha, if_true, decide_eq_true_eq] at h4
        exact h4.2.2
      · cases h3
theorem sumLinks_le (f : Deed → Nat) (c : Nat) : ∀ (ds : List Deed), (∀ d ∈ ds, f d ≤ c) → (ds.map f).sum ≤ c * ds.length
  | [], _ => by simp
  | d :: ds, h => by
    have h1 := h d (by simp)
    have h2 := sumLinks_le f c ds fun x hx => h x (by simp [hx])
    simp only [List.map_cons, List.sum_cons, List.length_cons]
    rw [Nat.mul_succ]
    omega
theorem allNames_len {ds : List Deed} (h : accOk ds = true) : (allNames ds).length ≤ 201 * 400 := by
  have h1 := accOk_len h
  have h2 := accOk_deeds h
  unfold allNames
  rw [List.length_flatMap]
  refine Nat.le_trans (sumLinks_le _ 201 ds fun d hd => ?_) (Nat.mul_le_mul_left 201 h1.1)
  obtain ⟨i, hi, rfl⟩ := List.mem_iff_getElem.1 hd
  have := linkOk_len (h2 i hi)
  rw [dAt_lt hi] at this
  simp
  omega
theorem sourcesOf_len (ds : List Deed) : (sourcesOf ds).length ≤ 400 := by
  unfold sourcesOf
  split
  · rename_i h
    have := accOk_len h
    have := setOf_len (srcNames ds)
    have := srcNames_len ds
    omega
  · simp
theorem namesOf_len (ds : List Deed) : (namesOf ds).length ≤ 80400 := by
  unfold namesOf
  split
  · rename_i h
    have := setOf_len (allNames ds)
    have := allNames_len h
    omega
  · simp
theorem nodup_put {l : List (List UInt8)} {a : List UInt8} (h : l.Nodup) : (if a ∈ l then l else l ++ [a]).Nodup := by
  split
  · exact h
  · rename_i hn
    rw [List.nodup_append]
    exact ⟨h, by simp, fun x hx y hy e => hn (by simp at hy; rw [← hy, ← e]; exact hx)⟩
theorem mem_put {l : List (List UInt8)} {a x : List UInt8} : x ∈ (if a ∈ l then l else l ++ [a]) ↔ x ∈ l ∨ x = a := by
  split
  · rename_i h
    exact ⟨.inl, fun hh => hh.elim id fun e => e ▸ h⟩
  · simp
end Go.Am

/- The names of a set, sorted. No condition. -/
set_option linter.unusedSimpArgs false
set_option linter.unusedVariables false
namespace Go.Proofs.Ytehhjbomdohgoab
open Go Go.Am Go.Proofs
set_option maxRecDepth 20000
variable {ng : Nat}
theorem sorted_ac {l : List (List UInt8)} {m : Nat} {H : Heap} (hm : MapR kS H m (vS l)) (hok : ∀ x ∈ l, okS x) (hl : l.length ≤ 1048576) :
    AC Try.prog ng 21 [.map (some m)] H fun v S' => ∃ (o : List (List UInt8)) (F : List Nat), o.Perm l ∧ Ext H S' ∧ NmsR true S' (o.mergeSort fun x y => decide (x ≤ y)) [v] F ∧ Fresh H.length F := by
  refine AC.go [] Try.func21 rfl Try.ntmps21 rfl ⟨mixed, by kernel_rfl⟩ ?_
  simp +contextual (dsimp := false)
  refine RangeK.map und52 hm ?_
  intro b hit
  simp +contextual (dsimp := false)
  refine LoopA.up (σ := Heap × List Nat × Value × List Nat) [3, 6] (fun x => [(3, x.2.2.1)]) (fun x => x.1)
    (fun x => IterR kS x.1 H.length m (vS l) x.2.1 ∧ x.2.1.Nodup ∧ x.2.1.length ≤ l.length ∧ (∀ j, j < H.length → x.1[j]? = H[j]?) ∧ H.length + 1 ≤ x.1.length ∧ NmsR true x.1 (x.2.1.map fun i => l.getD i []) [x.2.2.1] x.2.2.2 ∧ Fresh (H.length + 1) x.2.2.2)
    (fun x => l.length - x.2.1.length) (_, [], .slice none 0 0, []) rfl ⟨hit, List.nodup_nil, by simp, fun j hj => get_ext hj, by simp, SlR.nil, Fresh.nil _⟩ ?_
  rintro ⟨hp, done, s, F⟩ ⟨hit, hnd, hdl, hfr, hle, hv, hf⟩
  dsimp only at hit hnd hdl hfr hle hv hf
  obtain ⟨a0, z0, rfl⟩ := hv.form
  have hdm : (done.map fun i => l.getD i []).length = done.length := by simp
  rw [hdm] at hv
  simp +contextual (dsimp := false)
  have hvl : (vS l).length = l.length := by simp [vS]
  refine NextK.map hit (fun i hi hni H' hit' hH' hl' => ?_) (fun hall => ?_)
  · have hi2 : i < l.length := by omega
    simp +contextual (dsimp := false)
    refine EntryK.map hi hit' ?_
    simp +contextual (dsimp := false)
    have hki : (vS l)[i].1 = l[i] := by simp [vS]
    have hmn : m ≠ H.length := fun hc => hit.1 hc.symm
    refine AppK.one (R := nmR) (l := done.map fun i => l.getD i []) (ex := 9) (fx := (0, 0)) (ox := true) (base := H.length + 1) (x := l[i]) (cx := [str l[i]]) (Fx := []) slt26 und26 ?_ hf ?_ ⟨rfl, rfl, hok _ (List.getElem_mem hi2)⟩ (Fresh.nil _) (by simp) ?_ ?_ (by decide) ?_
    · exact Rp.ext (Rp.fr hv fun j hj => hH' j (by have := hf.1 j hj; omega)) (Ext.app _ _)
    · simp [hki]
    · simp; omega
    · simp; omega
    intro s4 H4 F4 q1 q2 q3 q4 q5
    obtain ⟨a4, z4, rfl⟩ := q1.form
    simp only [List.length_append, List.length_cons, List.length_nil] at q3
    simp +contextual (dsimp := false)
    have hnd2 : (done ++ [i]).Nodup := List.nodup_append.2 ⟨hnd, by simp, fun a ha b hb hab => hni (by simp at hb; rw [← hb, ← hab]; exact ha)⟩
    have hin : ∀ j ∈ done ++ [i], j < (vS l).length := by
      obtain ⟨_, _, _, _, _, _, _, _, _, _, h⟩ := hit'
      exact h
    have hle2 : (done ++ [i]).length ≤ l.length := by
      have := nodup_sub_len (done ++ [i]) (List.range l.length) hnd2 fun k hk => List.mem_range.2 (by have := hin k hk; omega)
      simpa using this
    simp only [List.length_append, List.length_singleton] at hle2
    have k4 : ∀ j, j < H'.length → j ∉ F → H4[j]? = H'[j]? := fun j hj hm' => (q4 j (by simp; omega) hm').trans (get_ext hj)
    have hF0 : ∀ j, j ≤ H.length → j ∉ F := fun j hj hm' => by have := hf.1 j hm'; omega
    have hml : m < H.length := hm.lt
    refine LoopN.of (H4, done ++ [i], .slice a4 (done.length + 1) z4, F4) rfl ⟨hit'.fr (k4 _ (by omega) (hF0 _ (Nat.le_refl _))) (k4 _ (by omega) (hF0 _ (by omega))), hnd2, by simpa using hle2, fun j hj => (k4 j (by omega) (hF0 _ (by omega))).trans ((hH' j (by omega)).trans (hfr j hj)), by dsimp only; omega, ?_, q2⟩ (by simp only [List.length_append, List.length_singleton]; omega)
    dsimp only
    rw [List.map_append, List.map_cons, List.map_nil, show l.getD i [] = l[i] by simp [List.getD, hi2]]
    simp only [List.length_append, List.length_singleton, List.length_map] at q1
    exact q1
  · have hg : ∀ k, goEx (.tuple #[.bool false]) 0 k = k (.bool false) := fun k => by simp [goEx, extract?, isOver, goV]
    simp +contextual (dsimp := false) [hg]
    refine CallK.of ⟨_, Try.func29, rfl, rfl⟩ (sort_ac hv) ?_
    rintro v S' ⟨rfl, hv2, hl2, hf2⟩
    simp +contextual (dsimp := false)
    have hin : ∀ j ∈ done, j < (vS l).length := by
      obtain ⟨_, _, _, _, _, _, _, _, _, _, h⟩ := hit
      exact h
    have hp : done.Perm (List.range l.length) := (List.perm_ext_iff_of_nodup hnd List.nodup_range).2 fun i => ⟨fun h => List.mem_range.2 (by have := hin i h; omega), fun h => hall i (by have := List.mem_range.1 h; omega)⟩
    have hr : (List.range l.length).map (fun i => l.getD i []) = l := by
      apply List.ext_getElem
      · simp
      · intro i h1 h2
        simp [List.getD, h2]
    refine ⟨done.map fun i => l.getD i [], (hp.map _).trans (by rw [hr]), fun j hj => (hf2 j (fun hm' => by have := hf.1 j hm'; omega)).trans (hfr j hj), F, hv2, hf.weak (by omega)⟩
end Go.Proofs.Ytehhjbomdohgoab

/- Sources, both. No condition. -/
set_option linter.unusedSimpArgs false
set_option linter.unusedVariables false
namespace Go.Proofs.Ytehhjbomdohgoab
open Go Go.Am Go.Proofs
set_option maxRecDepth 20000
variable {ng : Nat}
theorem putP_vS (a : List UInt8) : ∀ l : List (List UInt8), putP a (.bool true) (vS l) = vS (if a ∈ l then l else l ++ [a])
  | [] => by simp [vS, putP]
  | b :: l => by
    have ih := putP_vS a l
    unfold vS at ih ⊢
    by_cases h : a = b
    · simp [putP, h]
    · by_cases hm : a ∈ l
      · rw [if_pos hm] at ih
        rw [if_pos (by simp [hm]), List.map_cons, putP, if_neg h, ih]
      · rw [if_neg hm] at ih
        rw [if_neg (by simp [hm, h]), List.map_cons, putP, if_neg h, ih]
        simp
end Go.Proofs.Ytehhjbomdohgoab

/- What Depends computes. No condition. -/
namespace Go.Am
open Go
set_option linter.unusedSimpArgs false
set_option linter.unusedVariables false

/-- Does a link, by what is known of the deeds, stand on the name? -/
def lnkOn (nm : List UInt8) (b : List Bool) (l : Lnk) : Bool := decide (l.name = nm) || (l.ask && b.getD l.at_.toNat false)
def depL (ds : List Deed) (nm : List UInt8) : Nat → List Bool
  | 0 => []
  | i + 1 => depL ds nm i ++ [(dAt ds i).links.any (lnkOn nm (depL ds nm i))]
def depB (ds : List Deed) (nm : List UInt8) (i : Nat) : Bool := (depL ds nm (i + 1)).getD i false
theorem depL_len (ds : List Deed) (nm : List UInt8) : ∀ n, (depL ds nm n).length = n
  | 0 => rfl
  | n + 1 => by simp [depL, depL_len ds nm n]
theorem depL_get (ds : List Deed) (nm : List UInt8) : ∀ (m i : Nat), i < m → (depL ds nm m).getD i false = depB ds nm i
  | 0, i, h => by omega
  | m + 1, i, h => by
    rcases Nat.lt_or_ge i m with h1 | h1
    · have ih := depL_get ds nm m i h1
      have hl := depL_len ds nm m
      rw [depL, List.getD_eq_getElem?_getD, List.getElem?_append_left (by omega), ← List.getD_eq_getElem?_getD, ih]
    · obtain rfl : i = m := by omega
      rfl
theorem any_congr' {α : Type} {l : List α} {p q : α → Bool} (h : ∀ x ∈ l, p x = q x) : l.any p = l.any q := by
  induction l with
  | nil => rfl
  | cons a l ih => rw [List.any_cons, List.any_cons, h a (by simp), ih fun x hx => h x (by simp [hx])]
theorem depB_eq {ds : List Deed} {nm : List UInt8} (hb : back ds) {i : Nat} (hi : i < ds.length) (b : List Bool) (hbl : ∀ j, j < i → b.getD j false = depB ds nm j) : depB ds nm i = (dAt ds i).links.any (lnkOn nm b) := by
  have hl := depL_len ds nm i
  unfold depB
  rw [depL, List.getD_eq_getElem?_getD, List.getElem?_append_right (by omega), hl, Nat.sub_self]
  simp only [List.getElem?_cons_zero, Option.getD_some]
  refine any_congr' fun l hl' => ?_
  unfold lnkOn
  cases ha : l.ask with
  | false => simp
  | true =>
    obtain ⟨h1, h2⟩ := hb i hi l hl' ha
    rw [depL_get ds nm i _ (by omega), hbl _ (by omega)]
def depNames (ds : List Deed) (nm : List UInt8) (n : Nat) : List (List UInt8) := ((List.range n).filter (depB ds nm)).map fun i => (dAt ds i).name
theorem depNames_mem {ds : List Deed} {nm : List UInt8} {n : Nat} {y : List UInt8} : y ∈ depNames ds nm n ↔ ∃ i, i < n ∧ depB ds nm i = true ∧ (dAt ds i).name = y := by
  unfold depNames
  simp only [List.mem_map, List.mem_filter, List.mem_range]
  constructor
  · rintro ⟨i, ⟨h1, h2⟩, h3⟩; exact ⟨i, h1, h2, h3⟩
  · rintro ⟨i, h1, h2, h3⟩; exact ⟨i, ⟨h1, h2⟩, h3⟩
def dependsOf (ds : List Deed) (nm : List UInt8) : List (List UInt8) := if accOk ds then setOf (depNames ds nm ds.length) else []
theorem depNames_len (ds : List Deed) (nm : List UInt8) (n : Nat) : (depNames ds nm n).length ≤ n := by
  unfold depNames
  rw [List.length_map]
  refine Nat.le_trans (List.length_filter_le _ _) ?_
  simp
theorem dependsOf_len (ds : List Deed) (nm : List UInt8) : (dependsOf ds nm).length ≤ 400 := by
  unfold dependsOf
  split
  · rename_i h
    have := accOk_len h
    have := setOf_len (depNames ds nm ds.length)
    have := depNames_len ds nm ds.length
    omega
  · simp
theorem nodup_at {ds : List Deed} (h : (ds.map (·.name)).Nodup) {i j : Nat} (hi : i < ds.length) (hj : j < ds.length) (he : (dAt ds i).name = (dAt ds j).name) : i = j := by
  rw [List.nodup_iff_pairwise_ne, List.pairwise_iff_getElem] at h
  rw [dAt_lt hi, dAt_lt hj] at he
  refine Decidable.byContradiction fun hne => ?_
  rcases Nat.lt_or_gt_of_ne hne with hlt | hlt
  · exact h i j (by simpa using hi) (by simpa using hj) hlt (by simpa using he)
  · exact h j i (by simpa using hj) (by simpa using hi) hlt (by simpa using he.symm)
/-- The names of the places that are marked. -/
def onNames (ds : List Deed) (b : List Bool) : List (List UInt8) := ((List.range ds.length).filter fun i => b.getD i false).map fun i => (dAt ds i).name
theorem onNames_mem {ds : List Deed} {b : List Bool} {y : List UInt8} : y ∈ onNames ds b ↔ ∃ i, i < ds.length ∧ b.getD i false = true ∧ (dAt ds i).name = y := by
  unfold onNames
  simp only [List.mem_map, List.mem_filter, List.mem_range]
  constructor
  · rintro ⟨i, ⟨h1, h2⟩, h3⟩; exact ⟨i, h1, h2, h3⟩
  · rintro ⟨i, h1, h2, h3⟩; exact ⟨i, ⟨h1, h2⟩, h3⟩
theorem getD_set {b : List Bool} {i j : Nat} (hi : i < b.length) : (b.set i true).getD j false = (decide (i = j) || b.getD j false) := by
  rw [List.getD_eq_getElem?_getD, List.getD_eq_getElem?_getD, List.getElem?_set]
  by_cases h : i = j
  · subst h; simp [hi]
  · simp [h]
theorem onNames_set {ds : List Deed} {b : List Bool} {i : Nat} (hi : i < ds.length) (hb : b.length = ds.length) : setOf (onNames ds (b.set i true)) = insS (setOf (onNames ds b)) (dAt ds i).name := by
  refine (setOf_uniq (insS_asc (setOf_asc _) _) fun y => ?_).symm
  rw [insS_mem, setOf_mem, onNames_mem, onNames_mem]
  constructor
  · rintro (⟨j, h1, h2, h3⟩ | rfl)
    · exact ⟨j, h1, by rw [getD_set (by omega), h2, Bool.or_true], h3⟩
    · exact ⟨i, hi, by rw [getD_set (by omega)]; simp, rfl⟩
  · rintro ⟨j, h1, h2, h3⟩
    rw [getD_set (by omega), Bool.or_eq_true, decide_eq_true_eq] at h2
    rcases h2 with rfl | h2
    · exact .inr h3.symm
    · exact .inl ⟨j, h1, h2, h3⟩
def offN (b : List Bool) : Nat := (b.filter fun x => !x).length
theorem offN_set {b : List Bool} {i : Nat} (hi : i < b.length) (h : b.getD i false = false) : offN (b.set i true) + 1 = offN b := by
  unfold offN
  have e : b = b.take i ++ b[i] :: b.drop (i + 1) := by simp
  have hb : b[i] = false := by rw [List.getD_eq_getElem?_getD, List.getElem?_eq_getElem hi] at h; simpa using h
  have e2 : b.set i true = b.take i ++ true :: b.drop (i + 1) := by
    conv => lhs; rw [e]
    rw [List.set_append_right _ _ (by simp; omega)]
    have : i - (b.take i).length = 0 := by simp; omega
    rw [this]
    rfl
  conv => rhs; rw [e]
  rw [e2, List.filter_append, List.filter_append]
  simp [hb]
  omega
/-- Marks that are right and closed are those of the dependents. -/
theorem on_closed {ds : List Deed} {nm : List UInt8} (hb : back ds) {b : List Bool} (hs : ∀ i, b.getD i false = true → depB ds nm i = true) (hc : ∀ i, i < ds.length → (dAt ds i).links.any (lnkOn nm b) = true → b.getD i false = true) :
    ∀ i, i < ds.length → b.getD i false = depB ds nm i := by
  intro i
  induction i using Nat.strongRecOn with
  | _ i ih =>
    intro hi
    have he := depB_eq (nm := nm) hb hi b fun j hj => ih j hj (by omega)
    cases hd : depB ds nm i with
    | true => exact hc i hi (by rw [← he, hd])
    | false =>
      cases hv : b.getD i false with
      | false => rfl
      | true => rw [hs i hv] at hd; cases hd
/-- A link that stands on the name by right marks makes its deed a dependent. -/
theorem on_sound {ds : List Deed} {nm : List UInt8} (hb : back ds) {b : List Bool} (hs : ∀ i, b.getD i false = true → depB ds nm i = true) {i : Nat} (hi : i < ds.length) {l : Lnk} (hl : l ∈ (dAt ds i).links) (ho : lnkOn nm b l = true) : depB ds nm i = true := by
  rw [depB_eq (nm := nm) hb hi (depL ds nm i) fun j hj => depL_get ds nm i j hj, List.any_eq_true]
  refine ⟨l, hl, ?_⟩
  unfold lnkOn at ho ⊢
  simp only [Bool.or_eq_true, Bool.and_eq_true] at ho ⊢
  rcases ho with h | ⟨h1, h2⟩
  · exact .inl h
  · obtain ⟨g1, g2⟩ := hb i hi l hl h1
    exact .inr ⟨h1, by rw [depL_get ds nm i _ (by omega)]; exact hs _ h2⟩
end Go.Am

/- Depends, both. No condition. -/
set_option linter.unusedSimpArgs false
set_option linter.unusedVariables false
namespace Go.Proofs.Ytehhjbomdohgoab
open Go Go.Am Go.Proofs
set_option maxRecDepth 20000
variable {ng : Nat}
theorem any_take_s {ls : List Lnk} {p : Lnk → Bool} {k : Nat} (h : k < ls.length) : (ls.take (k + 1)).any p = ((ls.take k).any p || p ls[k]) := by
  rw [List.take_succ_eq_append_getElem h, List.any_append]
  simp
theorem implDepends_ac {own : Bool} {ds : List Deed} {sd : Value} {FD : List Nat} {H : Heap} {nm : List UInt8} (hs : DeedsR own H ds [sd] FD) (hn : okS nm) : AC Try.prog ng 15 [.agg #[sd], str nm] H fun v S' => ∃ F', Ext H S' ∧ StrsR true S' (dependsOf ds nm) [v] F' ∧ Fresh H.length F' := by
  obtain ⟨ad, zd, rfl⟩ := hs.form
  have hb := hs.bound
  refine AC.go [] Try.func15 rfl Try.ntmps15 rfl ⟨mixed, by kernel_rfl⟩ ?_
  simp +contextual (dsimp := false)
  refine CallK.fl ⟨_, Try.func20, rfl, rfl⟩ (accValid_ac (Rp.ext hs (Ext.app _ _))) ?_
  unfold dependsOf
  cases hok : accOk ds with
  | false =>
    simp +contextual (dsimp := false)
    exact ⟨[], SlR.nil, Fresh.nil _⟩
  | true =>
    simp +contextual (dsimp := false)
    have hlen := accOk_len hok
    have hbk := deedOk_back (accOk_deeds hok)
    have hlo := accOk_deeds hok
    have hdn := accOk_nodup hok
    obtain ⟨H0, hH0⟩ : ∃ H0, H0 = H ++ [(⟨.cells #[.slice ad ds.length zd] 30 (0, 0), true, true⟩ : Blk), ⟨.map #[] 0, true, true⟩] := ⟨_, rfl⟩
    have hx0 : Ext H H0 := by rw [hH0]; exact Ext.app _ _
    have hl0 : H0.length = H.length + 2 := by rw [hH0]; simp
    have hm0 : MapR kS H0 (H.length + 1) (vS []) := MapR.new (by rw [hH0]; simp)
    rw [← hH0]
    refine LoopA.up (σ := Nat × Heap × List (List UInt8)) [1, 5, 15, 16, 17] (fun i => [(17, int i.1)]) (fun i => i.2.1)
      (fun x => x.1 ≤ ds.length ∧ Ext H x.2.1 ∧ H.length + 2 ≤ x.2.1.length ∧ MapR kS x.2.1 (H.length + 1) (vS x.2.2) ∧ x.2.2.Nodup ∧ (∀ y, y ∈ x.2.2 ↔ y ∈ depNames ds nm x.1) ∧ ∀ y ∈ x.2.2, okS y) (fun i => ds.length - i.1) (0, H0, []) rfl ⟨by simp, hx0, by dsimp only; omega, hm0, by simp, by simp [depNames], by simp⟩ ?_
    rintro ⟨i, hp, l⟩ ⟨hi, hx, hle, hm, hnd, hmem, hks⟩
    dsimp only at hi hx hle hm hnd hmem hks
    simp +contextual (dsimp := false)
    refine ifA_dec (fun h3 => ?_) (fun h3 => ?_)
    · obtain ⟨id, o, c, e, f, ow, cs, Fi, E⟩ := SlR.get (Rp.ext hs hx) i h3
      obtain ⟨hkk, s1, s2, G1, G2, rfl, hFi, hc1, hc2⟩ := E.rep
      obtain ⟨a1, z1, rfl⟩ := hc1.form
      obtain ⟨a2, z2, rfl⟩ := hc2.form
      have hll := hc2.bound
      simp +contextual (dsimp := false) [E.idx, E.goB, E.le, E.lt, E.ext, wrap_succ (show i < 9223372036854775807 by omega)]
      obtain ⟨h1, hh1⟩ : ∃ h1, h1 = hp ++ [(⟨.cells #[str ds[i].name, int ds[i].kind, int ds[i].code, str ds[i].text, .slice a1 ds[i].action.length z1, .slice a2 ds[i].links.length z2] 47 (0, 0), true, true⟩ : Blk)] := ⟨_, rfl⟩
      have hx1 : Ext H h1 := by rw [hh1]; exact hx.trans (Ext.app _ _)
      have hl1 : h1.length = hp.length + 1 := by rw [hh1]; simp
      have hbd : h1[hp.length]? = some (⟨.cells #[str ds[i].name, int ds[i].kind, int ds[i].code, str ds[i].text, .slice a1 ds[i].action.length z1, .slice a2 ds[i].links.length z2] 47 (0, 0), true, true⟩ : Blk) := by rw [hh1]; simp
      have hm1 : MapR kS h1 (H.length + 1) (vS l) := by rw [hh1]; exact hm.fr (get_ext hm.lt)
      have hG : ∀ j ∈ G2, j < H.length := fun j hj => Rp.lt hs j (E.sub j (by rw [hFi]; simp [hj]))
      have hlk : ∀ h : Heap, Ext H h → LnksR own h ds[i].links [.slice a2 ds[i].links.length z2] G2 := fun h he => Rp.fr hc2 fun j hj => (he j (hG j hj)).trans (hx j (hG j hj)).symm
      rw [← hh1]
      have hdi := dAt_lt h3
      have hdep := depB_eq (nm := nm) hbk h3 (depL ds nm i) fun j hj => depL_get ds nm i j hj
      rw [hdi] at hdep
      refine LoopA.up (σ := Nat × Heap × List (List UInt8)) [1, 5, 7, 15, 16, 17, 22, 23, 24] (fun i => [(24, int i.1)]) (fun i => i.2.1)
        (fun x => x.1 ≤ ds[i].links.length ∧ Ext H x.2.1 ∧ H.length + 2 ≤ x.2.1.length ∧ hp.length < x.2.1.length ∧ x.2.1[hp.length]? = h1[hp.length]? ∧ MapR kS x.2.1 (H.length + 1) (vS x.2.2) ∧ x.2.2.Nodup ∧ (∀ y, y ∈ x.2.2 ↔ (y ∈ depNames ds nm i ∨ y = ds[i].name ∧ (ds[i].links.take x.1).any (lnkOn nm (depL ds nm i)) = true)) ∧ ∀ y ∈ x.2.2, okS y) (fun x => ds[i].links.length - x.1) (0, h1, l) rfl ⟨by simp, hx1, by dsimp only; omega, by dsimp only; omega, rfl, hm1, hnd, fun y => by dsimp only; rw [hmem]; simp, hks⟩ ?_
      rintro ⟨k, h2, l2⟩ ⟨hk2, hx2, hle2, hlp2, hbk2, hm2, hnd2, hmem2, hks2⟩
      dsimp only at hk2 hx2 hle2 hlp2 hbk2 hm2 hnd2 hmem2 hks2
      simp +contextual (dsimp := false)
      refine ifA_dec (fun h4 => ?_) (fun h4 => ?_)
      · obtain ⟨id', o', c', e', f', ow', cs', Fi', E'⟩ := SlR.get (hlk h2 hx2) k h4
        obtain ⟨rfl, rfl, hok'⟩ := E'.rep
        have hm4 : ∀ T : Heap, MapR kS (h2 ++ T) (H.length + 1) (vS l2) := fun T => hm2.fr (get_ext hm2.lt)
        have hbT : ∀ T : Heap, (h2 ++ T)[hp.length]? = some (⟨.cells #[str ds[i].name, int ds[i].kind, int ds[i].code, str ds[i].text, .slice a1 ds[i].action.length z1, .slice a2 ds[i].links.length z2] 47 (0, 0), true, true⟩ : Blk) := fun T => (get_ext hlp2).trans (hbk2.trans hbd)
        have hkw := wrap_succ (show k < 9223372036854775807 by omega)
        have hlm : ds[i].links[k] ∈ (dAt ds i).links := by rw [hdi]; exact List.getElem_mem h4
        have hset : ds[i].links[k].ask = true → (ds[i].links[k].name ∈ l2 ↔ (depL ds nm i).getD ds[i].links[k].at_.toNat false = true) := by
          intro ha
          obtain ⟨g1, g2⟩ := hbk i h3 _ hlm ha
          have hj : ds[i].links[k].at_.toNat < i := by omega
          have hnm : (dAt ds ds[i].links[k].at_.toNat).name = ds[i].links[k].name := by
            have := linkOk_name (hlo i h3) hlm ha
            exact this
          rw [hmem2, depL_get ds nm i _ hj, depNames_mem]
          constructor
          · rintro (⟨j, q1, q2, q3⟩ | ⟨q1, q2⟩)
            · have := nodup_at hdn (show j < ds.length by omega) (show ds[i].links[k].at_.toNat < ds.length by omega) (q3.trans hnm.symm)
              rw [← this]; exact q2
            · have := nodup_at hdn h3 (show ds[i].links[k].at_.toNat < ds.length by omega) (by rw [hdi, ← q1, hnm])
              omega
          · intro q
            exact .inl ⟨_, hj, q, hnm⟩
        have hyes : lnkOn nm (depL ds nm i) ds[i].links[k] = true → ∀ es2 cl2, MapR kS ((h2 ++ [(⟨.cells #[str ds[i].links[k].name, .bool ds[i].links[k].ask, .bool ds[i].links[k].has, int ds[i].links[k].at_] 49 (0, 0), true, true⟩ : Blk)]).set (H.length + 1) (⟨.map es2 cl2, true, true⟩ : Blk)) (H.length + 1) (vS (if ds[i].name ∈ l2 then l2 else l2 ++ [ds[i].name])) →
            Ext H ((h2 ++ [(⟨.cells #[str ds[i].links[k].name, .bool ds[i].links[k].ask, .bool ds[i].links[k].has, int ds[i].links[k].at_] 49 (0, 0), true, true⟩ : Blk)]).set (H.length + 1) (⟨.map es2 cl2, true, true⟩ : Blk)) ∧
            ((h2 ++ [(⟨.cells #[str ds[i].links[k].name, .bool ds[i].links[k].ask, .bool ds[i].links[k].has, int ds[i].links[k].at_] 49 (0, 0), true, true⟩ : Blk)]).set (H.length + 1) (⟨.map es2 cl2, true, true⟩ : Blk))[hp.length]? = h1[hp.length]? ∧
            (∀ y, y ∈ (if ds[i].name ∈ l2 then l2 else l2 ++ [ds[i].name]) ↔ (y ∈ depNames ds nm i ∨ y = ds[i].name ∧ (ds[i].links.take (k + 1)).any (lnkOn nm (depL ds nm i)) = true)) ∧ ∀ y ∈ (if ds[i].name ∈ l2 then l2 else l2 ++ [ds[i].name]), okS y := by
          intro hy es2 cl2 hmp2
          refine ⟨fun j hj => (List.getElem?_set_ne (by omega)).trans ((get_ext (by omega)).trans (hx2 j hj)), (List.getElem?_set_ne (by omega)).trans ((get_ext hlp2).trans hbk2), fun y => ?_, fun y hy' => ?_⟩
          · rw [mem_put, hmem2, any_take_s h4, hy, Bool.or_true]
            constructor
            · rintro ((q | q) | q)
              · exact .inl q
              · exact .inr ⟨q.1, rfl⟩
              · exact .inr ⟨q, rfl⟩
            · rintro (q | q)
              · exact .inl (.inl q)
              · exact .inr q.1
          · rcases mem_put.1 hy' with hy' | rfl
            · exact hks2 y hy'
            · exact hkk.1
        have hno : lnkOn nm (depL ds nm i) ds[i].links[k] = false → ∀ y, y ∈ l2 ↔ (y ∈ depNames ds nm i ∨ y = ds[i].name ∧ (ds[i].links.take (k + 1)).any (lnkOn nm (depL ds nm i)) = true) := by
          intro hy y
          rw [any_take_s h4, hy, Bool.or_false]
          exact hmem2 y
        by_cases hq1 : ds[i].links[k].name = nm
        · have hy : lnkOn nm (depL ds nm i) ds[i].links[k] = true := by simp [lnkOn, hq1]
          simp +contextual (dsimp := false) [E'.idx, E'.goB, E'.le, E'.lt, E'.ext, Lnk.c, hkw, str_eq, hq1, hbT]
          refine UpdK.map (a := ds[i].name) keySB (hm4 _) rfl ?_
          intro es2 cl2 hmp2
          rw [putP_vS] at hmp2
          simp +contextual (dsimp := false) [hkw]
          rw [hq1] at hyes
          obtain ⟨p1, p2, p3, p4⟩ := hyes hy es2 cl2 hmp2
          exact LoopN.of (k + 1, _, if ds[i].name ∈ l2 then l2 else l2 ++ [ds[i].name]) rfl ⟨h4, p1, by simp; omega, by simp; omega, p2, hmp2, nodup_put hnd2, p3, p4⟩ (by dsimp only; omega)
        · cases hq2 : ds[i].links[k].ask with
          | false =>
            have hy : lnkOn nm (depL ds nm i) ds[i].links[k] = false := by simp [lnkOn, hq1, hq2]
            simp +contextual (dsimp := false) [E'.idx, E'.goB, E'.le, E'.lt, E'.ext, Lnk.c, hkw, str_eq, hq1, hq2, hbT]
            exact LoopN.of (k + 1, _, l2) rfl ⟨h4, hx2.trans (Ext.app _ _), by simp; omega, by simp; omega, (get_ext hlp2).trans hbk2, hm4 _, hnd2, hno hy, hks2⟩ (by dsimp only; omega)
          | true =>
            simp +contextual (dsimp := false) [E'.idx, E'.goB, E'.le, E'.lt, E'.ext, Lnk.c, hkw, str_eq, hq1, hq2, hbT]
            refine LookK.map (a := ds[i].links[k].name) keySB (hm4 _) ?_
            rw [getP_vS]
            by_cases hin : ds[i].links[k].name ∈ l2
            · have hy : lnkOn nm (depL ds nm i) ds[i].links[k] = true := by simp only [lnkOn, hq2, (hset hq2).1 hin, Bool.and_self, Bool.or_true]
              rw [if_pos hin]
              simp +contextual (dsimp := false) [hbT]
              refine UpdK.map (a := ds[i].name) keySB (hm4 _) rfl ?_
              intro es2 cl2 hmp2
              rw [putP_vS] at hmp2
              simp +contextual (dsimp := false) [hkw]
              rw [hq2] at hyes
              obtain ⟨p1, p2, p3, p4⟩ := hyes hy es2 cl2 hmp2
              exact LoopN.of (k + 1, _, if ds[i].name ∈ l2 then l2 else l2 ++ [ds[i].name]) rfl ⟨h4, p1, by simp; omega, by simp; omega, p2, hmp2, nodup_put hnd2, p3, p4⟩ (by dsimp only; omega)
            · have hy : lnkOn nm (depL ds nm i) ds[i].links[k] = false := by
                have : (depL ds nm i).getD ds[i].links[k].at_.toNat false = false := by
                  rw [Bool.eq_false_iff]
                  exact fun h => hin ((hset hq2).2 h)
                simp only [lnkOn, hq2, this, Bool.and_false, Bool.or_false, hq1, decide_false]
              rw [if_neg hin]
              simp +contextual (dsimp := false) [hkw]
              exact LoopN.of (k + 1, _, l2) rfl ⟨h4, hx2.trans (Ext.app _ _), by simp; omega, by simp; omega, (get_ext hlp2).trans hbk2, hm4 _, hnd2, hno hy, hks2⟩ (by dsimp only; omega)
      · rw [List.take_of_length_le (show ds[i].links.length ≤ k by omega)] at hmem2
        simp +contextual (dsimp := false) [wrap_succ (show i < 9223372036854775807 by omega)]
        refine LoopN.of (i + 1, h2, l2) rfl ⟨h3, hx2, hle2, hm2, hnd2, fun y => ?_, hks2⟩ (by dsimp only; omega)
        dsimp only
        rw [hmem2, depNames_mem, depNames_mem]
        constructor
        · rintro (⟨j, q1, q2, q3⟩ | ⟨q1, q2⟩)
          · exact ⟨j, by omega, q2, q3⟩
          · exact ⟨i, by omega, by rw [hdep]; exact q2, by rw [hdi, q1]⟩
        · rintro ⟨j, q1, q2, q3⟩
          rcases Nat.lt_or_ge j i with hji | hji
          · exact .inl ⟨j, hji, q2, q3⟩
          · obtain rfl : j = i := by omega
            exact .inr ⟨by rw [← q3, hdi], by rw [← hdep]; exact q2⟩
    · obtain rfl : i = ds.length := by omega
      have hl80 : l.length ≤ 1048576 := by
        have h1 := nodup_sub_len l (depNames ds nm ds.length) hnd fun y hy => (hmem y).1 hy
        have h2 := depNames_len ds nm ds.length
        omega
      refine CallK.of ⟨_, Try.func21, rfl, rfl⟩ (sorted_ac hm hks hl80) ?_
      rintro v S' ⟨o, F, hp1, he1, hv1, hf1⟩
      have e9 := sort_setOf (xs := depNames ds nm ds.length) hnd hmem hp1
      rw [e9] at hv1
      obtain ⟨a3, z3, rfl⟩ := hv1.form
      simp +contextual (dsimp := false)
      exact ⟨hx.trans he1, F, hv1, hf1.weak (by omega)⟩
structure DepS (own : Bool) (H : Heap) (ds : List Deed) (nm : List UInt8) (ad : Option Addr) (zd : Nat) (hp : Heap) (sv : Value) (F : List Nat) (b : List Bool) : Prop where
  ext : Ext H hp
  len : H.length + 3 ≤ hp.length
  box : hp[H.length]? = some (⟨.cells #[.slice ad ds.length zd] 30 (0, 0), true, true⟩ : Blk)
  out : StrsR true hp (setOf (onNames ds b)) [sv] F
  fr : Fresh (H.length + 1) F
  ni : H.length + 2 ∉ F
  bl : b.length = ds.length
  bs : BoolsR true hp b [.slice (some ⟨H.length + 2, 0, none⟩) ds.length 1] [H.length + 2]
  snd : ∀ i, b.getD i false = true → depB ds nm i = true
theorem DepS.app {own : Bool} {H : Heap} {ds : List Deed} {nm : List UInt8} {ad : Option Addr} {zd : Nat} {hp : Heap} {sv : Value} {F : List Nat} {b : List Bool} (W : DepS own H ds nm ad zd hp sv F b) (T : Heap) : DepS own H ds nm ad zd (hp ++ T) sv F b :=
  ⟨W.ext.trans (Ext.app _ _), by have := W.len; simp; omega, (get_ext (by have := W.len; omega)).trans W.box, Rp.ext W.out (Ext.app _ _), W.fr, W.ni, W.bl, Rp.ext W.bs (Ext.app _ _), W.snd⟩
def ClosedB (ds : List Deed) (nm : List UInt8) (b : List Bool) (n : Nat) : Prop := ∀ j, j < n → (dAt ds j).links.any (lnkOn nm b) = true → b.getD j false = true
theorem specDepends_ac {own : Bool} {ds : List Deed} {sd : Value} {FD : List Nat} {H : Heap} {nm : List UInt8} (hs : DeedsR own H ds [sd] FD) (hn : okS nm) : AC Try.prog ng 14 [.agg #[sd], str nm] H fun v S' => ∃ F', Ext H S' ∧ StrsR true S' (dependsOf ds nm) [v] F' ∧ Fresh H.length F' := by
  obtain ⟨ad, zd, rfl⟩ := hs.form
  have hb := hs.bound
  refine AC.go [] Try.func14 rfl Try.ntmps14 rfl ⟨mixed, by kernel_rfl⟩ ?_
  simp +contextual (dsimp := false)
  refine CallK.fl ⟨_, Try.func17, rfl, rfl⟩ (l3Ok_ac (Rp.ext hs (Ext.app _ _))) ?_
  unfold dependsOf
  cases hok : accOk ds with
  | false =>
    simp +contextual (dsimp := false)
    exact ⟨_, SlR.mt (R := strR) (e := 9) (f := (0, 0)) (j := H.length + 1) (by simp), Fresh.one (by omega)⟩
  | true =>
    simp +contextual (dsimp := false)
    have hlen := accOk_len hok
    have hbk := deedOk_back (accOk_deeds hok)
    have hlo := accOk_deeds hok
    have hdn := accOk_nodup hok
    obtain ⟨H0, hH0⟩ : ∃ H0, H0 = H ++ [(⟨.cells #[.slice ad ds.length zd] 30 (0, 0), true, true⟩ : Blk), ⟨.cells #[] 9 (0, 0), true, true⟩] := ⟨_, rfl⟩
    have hx0 : Ext H H0 := by rw [hH0]; exact Ext.app _ _
    have hl0 : H0.length = H.length + 2 := by rw [hH0]; simp
    have hb0 : H0[H.length]? = some (⟨.cells #[.slice ad ds.length zd] 30 (0, 0), true, true⟩ : Blk) := by rw [hH0]; simp
    have hr0 : StrsR true H0 (setOf (onNames ds (List.replicate ds.length false))) [.slice (some ⟨H.length + 1, 0, none⟩) 0 1] [H.length + 1] := by
      have : onNames ds (List.replicate ds.length false) = [] := by
        refine List.eq_nil_iff_forall_not_mem.2 fun y hy => ?_
        obtain ⟨j, h1, h2, _⟩ := onNames_mem.1 hy
        rw [List.getD_eq_getElem?_getD, List.getElem?_replicate, if_pos h1] at h2
        cases h2
      rw [this]
      exact SlR.mt (R := strR) (e := 9) (f := (0, 0)) (by rw [hH0]; simp)
    rw [← hH0]
    obtain ⟨hm, hls⟩ := SlR.make (H := H0) (R := boolR) (m := ds.length) slt57 zer4 false (fun H => ⟨rfl, rfl, trivial⟩) (by omega) (by omega)
    refine MakeK.of hm ?_
    rw [hl0] at hls ⊢
    obtain ⟨H1, hH1⟩ : ∃ H1, H1 = H0 ++ [(⟨.cells (zerosOf (Value.bool false).cells (ds.length * 1)) 4 (0, 0), true, true⟩ : Blk)] := ⟨_, rfl⟩
    have hx1 : Ext H0 H1 := by rw [hH1]; exact Ext.app _ _
    rw [← hH1] at hls ⊢
    have hl1 : H1.length = H.length + 3 := by rw [hH1]; simp; omega
    have W1 : DepS own H ds nm ad zd H1 (.slice (some ⟨H.length + 1, 0, none⟩) 0 1) [H.length + 1] (List.replicate ds.length false) :=
      ⟨hx0.trans hx1, by omega, (hx1 _ (by omega)).trans hb0, Rp.ext hr0 hx1, Fresh.one (Nat.le_refl _), by simp, by simp, hls, fun i h => by
        rw [List.getD_eq_getElem?_getD, List.getElem?_replicate] at h
        split at h <;> cases h⟩
    simp +contextual (dsimp := false)
    refine LoopA.up (σ := Heap × Value × List Nat × List Bool × Bool) [1, 2, 5, 6, 7] (fun x => [(5, x.2.1), (7, .bool x.2.2.2.2)]) (fun x => x.1)
      (fun x => DepS own H ds nm ad zd x.1 x.2.1 x.2.2.1 x.2.2.2.1 ∧ (x.2.2.2.2 = false → ClosedB ds nm x.2.2.2.1 ds.length)) (fun x => 2 * offN x.2.2.2.1 + (if x.2.2.2.2 then 1 else 0)) (H1, _, _, _, true) rfl ⟨W1, by simp⟩ ?_
    rintro ⟨hp, sv, F, b, ag⟩ ⟨W, hcl⟩
    dsimp only at W hcl
    cases ag with
    | false =>
      simp +contextual (dsimp := false)
      have hon := on_closed hbk W.snd (hcl rfl)
      have e9 : setOf (onNames ds b) = setOf (depNames ds nm ds.length) := setOf_congr fun y => by
        rw [onNames_mem, depNames_mem]
        constructor
        · rintro ⟨i, h1, h2, h3⟩; exact ⟨i, h1, by rw [← hon i h1]; exact h2, h3⟩
        · rintro ⟨i, h1, h2, h3⟩; exact ⟨i, h1, by rw [hon i h1]; exact h2, h3⟩
      rw [← e9]
      exact ⟨W.ext, F, W.out, W.fr.weak (by omega)⟩
    | true =>
      simp +contextual (dsimp := false)
      clear hcl
      refine LoopA.up (σ := Nat × Heap × Value × List Nat × List Bool × Bool) [1, 2, 5, 6, 7, 8] (fun x => [(5, x.2.2.1), (7, .bool x.2.2.2.2.2), (8, int x.1)]) (fun x => x.2.1)
        (fun x => x.1 ≤ ds.length ∧ DepS own H ds nm ad zd x.2.1 x.2.2.1 x.2.2.2.1 x.2.2.2.2.1 ∧ offN x.2.2.2.2.1 ≤ offN b ∧ (x.2.2.2.2.2 = true → offN x.2.2.2.2.1 < offN b) ∧ (x.2.2.2.2.2 = false → ClosedB ds nm x.2.2.2.2.1 x.1)) (fun x => ds.length - x.1) (0, hp, sv, F, b, false) rfl ⟨by simp, W, Nat.le_refl _, by simp, fun _ j hj => absurd hj (by dsimp only; omega)⟩ ?_
      rintro ⟨i, hp1, sv1, F1, b1, ag1⟩ ⟨hi, W1, ho1, ht1, hc1⟩
      dsimp only at hi W1 ho1 ht1 hc1
      have hbx1 := W1.box
      simp +contextual (dsimp := false) [hbx1]
      refine ifA_dec (fun h3 => ?_) (fun h3 => ?_)
      · have hdi := dAt_lt h3
        have hdd : ∀ h : Heap, Ext H h → ∃ id o c e f ow cs Fi, Elt (DeedR own) 6 own h ds (.slice ad ds.length zd) FD i ds[i] id o c e f ow cs Fi := fun h he => SlR.get (Rp.ext hs he) i h3
        refine LoopA.up (σ := Nat × Heap × Value × List Nat × List Bool × Bool) [1, 2, 5, 6, 7, 8, 9] (fun x => [(5, x.2.2.1), (7, .bool x.2.2.2.2.2), (9, int x.1)]) (fun x => x.2.1)
          (fun x => x.1 ≤ ds[i].links.length ∧ DepS own H ds nm ad zd x.2.1 x.2.2.1 x.2.2.2.1 x.2.2.2.2.1 ∧ offN x.2.2.2.2.1 ≤ offN b ∧ (x.2.2.2.2.2 = true → offN x.2.2.2.2.1 < offN b) ∧ (x.2.2.2.2.2 = false → ClosedB ds nm x.2.2.2.2.1 i ∧ ((ds[i].links.take x.1).any (lnkOn nm x.2.2.2.2.1) = true → x.2.2.2.2.1.getD i false = true))) (fun x => ds[i].links.length - x.1) (0, hp1, sv1, F1, b1, ag1) rfl ⟨by simp, W1, ho1, ht1, fun h => ⟨hc1 h, by simp⟩⟩ ?_
        rintro ⟨k, hp2, sv2, F2, b2, ag2⟩ ⟨hk, W2, ho2, ht2, hc2⟩
        dsimp only at hk W2 ho2 ht2 hc2
        have hbx2 := W2.box
        obtain ⟨id, o, c, e, f, ow, cs, Fi, E⟩ := hdd hp2 W2.ext
        obtain ⟨hkk, s1', s2', G1', G2', rfl, hFi, hq1, hq2⟩ := E.rep
        obtain ⟨a1', z1', rfl⟩ := hq1.form
        obtain ⟨a2', z2', rfl⟩ := hq2.form
        have hll := hq2.bound
        simp +contextual (dsimp := false) [hbx2, E.idx, E.goB, E.le, E.lt, E.cell0, E.cell, E.ext]
        refine ifA_dec (fun h4 => ?_) (fun h4 => ?_)
        · obtain ⟨id', o', c', e', f', ow', cs', Fi', E'⟩ := SlR.get hq2 k h4
          obtain ⟨rfl, rfl, hok'⟩ := E'.rep
          have hkw := wrap_succ (show k < 9223372036854775807 by omega)
          have hib : i < b2.length := by rw [W2.bl]; exact h3
          obtain ⟨id6, o6, c6, e6, f6, ow6, cs6, Fi6, E6⟩ := SlR.get W2.bs i hib
          obtain ⟨rfl, rfl, -⟩ := E6.rep
          obtain rfl := E6.own' rfl
          have hbg : b2.getD i false = b2[i] := by rw [List.getD_eq_getElem?_getD, List.getElem?_eq_getElem hib]; rfl
          have hlm : ds[i].links[k] ∈ (dAt ds i).links := by rw [hdi]; exact List.getElem_mem h4
          have hbT : ∀ T : Heap, (hp2 ++ T)[H.length]? = some (⟨.cells #[.slice ad ds.length zd] 30 (0, 0), true, true⟩ : Blk) := fun T => (W2.app T).box
          have hg6 : ∀ (T : Heap) (q : Blk → Prop), goB (hp2 ++ T) id6 q = q ⟨.cells c6 e6 f6, true, true⟩ := fun T q => goB_app E6.blk q
          have hgE : ∀ (T : Heap) (q : Blk → Prop), goB (hp2 ++ T) id q = q ⟨.cells c e f, true, ow⟩ := fun T q => goB_app E.blk q
          have hid6 : id6 = H.length + 2 := by simpa using E6.mem
          have hskip : (b2[i] = true ∨ lnkOn nm b2 ds[i].links[k] = false) → ∀ T : Heap, (ag2 = false → ClosedB ds nm b2 i ∧ ((ds[i].links.take (k + 1)).any (lnkOn nm b2) = true → b2.getD i false = true)) := by
            intro hor T hag
            refine ⟨(hc2 hag).1, fun hany => ?_⟩
            rcases hor with h | h
            · rw [hbg, h]
            · rw [any_take_s h4, h, Bool.or_false] at hany
              exact (hc2 hag).2 hany
          by_cases hbi : b2[i] = true
          · simp +contextual (dsimp := false) [hbx2, hbT, E.idx, E.goB, E.le, E.lt, E.cell0, E.cell, E.ext, E'.idx, E'.goB, E'.le, E'.lt, E'.ext, E6.idx, E6.goB, E6.le, E6.lt, E6.cell0, hg6, hgE, Lnk.c, hkw, hbi]
            exact LoopN.of (k + 1, _, sv2, F2, b2, ag2) rfl ⟨h4, W2.app _, ho2, ht2, hskip (.inl hbi) []⟩ (by dsimp only; omega)
          · have hbi : b2[i] = false := by simpa using hbi
            have hset := E6.set (by simp) rfl rfl (show boolR hp2 true [.bool true] [] from ⟨rfl, rfl, trivial⟩)
            have hoff := offN_set hib (by rw [hbg, hbi])
            have hne6 : id ≠ id6 := by have := Rp.lt hs _ E.mem; omega
            have hleW := W2.len
            have hbS : ∀ (X : Blk) (T : Heap), (hp2.set id6 X ++ T)[H.length]? = some (⟨.cells #[.slice ad ds.length zd] 30 (0, 0), true, true⟩ : Blk) := fun X T => (get_ext (by simp; omega)).trans ((List.getElem?_set_ne (by omega)).trans hbx2)
            have hgS : ∀ (X : Blk) (T : Heap) (q : Blk → Prop), goB (hp2.set id6 X ++ T) id q = q ⟨.cells c e f, true, ow⟩ := fun X T q => goB_app ((List.getElem?_set_ne (Ne.symm hne6)).trans E.blk) q
            have hyes : lnkOn nm b2 ds[i].links[k] = true → ∀ (T S3 : Heap) (v : Value) (F3 : List Nat), Ext (hp2.set id6 ⟨.cells (setL c6 o6 [.bool true]) e6 f6, true, true⟩ ++ T) S3 → StrsR true S3 (insS (setOf (onNames ds b2)) ds[i].name) [v] F3 → Fresh (H.length + 1) F3 → (∀ j ∈ F3, j ∈ F2 ∨ (hp2.set id6 ⟨.cells (setL c6 o6 [.bool true]) e6 f6, true, true⟩ ++ T).length ≤ j) →
                DepS own H ds nm ad zd S3 v F3 (b2.set i true) ∧ offN (b2.set i true) < offN b := by
              intro hy T S3 v F3 he3 hv3 hf3 hm3
              have hle3 := he3.le
              simp only [List.length_append, List.length_set] at hle3 hm3
              refine ⟨⟨?_, by omega, ?_, ?_, hf3, fun hm => ?_, by simp [W2.bl], ?_, fun j hj => ?_⟩, by omega⟩
              · exact fun j hj => (he3 j (by simp; omega)).trans ((get_ext (by simp; omega)).trans ((List.getElem?_set_ne (by omega)).trans (W2.ext j hj)))
              · exact (he3 _ (by simp; omega)).trans (hbS _ T)
              · rw [onNames_set h3 W2.bl, hdi]; exact hv3
              · rcases hm3 _ hm with h | h
                · exact W2.ni h
                · omega
              · exact Rp.ext (Rp.ext hset (Ext.app _ T)) he3
              · rw [getD_set hib, Bool.or_eq_true, decide_eq_true_eq] at hj
                rcases hj with rfl | hj
                · exact on_sound hbk W2.snd h3 hlm hy
                · exact W2.snd j hj
            by_cases hq1' : ds[i].links[k].name = nm
            · have hy : lnkOn nm b2 ds[i].links[k] = true := by simp [lnkOn, hq1']
              simp +contextual (dsimp := false) [hbx2, hbT, hbS, hgS, E.idx, E.goB, E.le, E.lt, E.cell0, E.cell, E.ext, E'.idx, E'.goB, E'.le, E'.lt, E'.ext, E6.idx, E6.goB, E6.le, E6.lt, E6.cell0, hg6, hgE, Lnk.c, hkw, hbi, str_eq, hq1']
              have hout := setOf_len (onNames ds b2)
              have honl : (onNames ds b2).length ≤ ds.length := by unfold onNames; rw [List.length_map]; exact Nat.le_trans (List.length_filter_le _ _) (by simp)
              refine CallK.of ⟨_, Try.func18, rfl, rfl⟩ (l5Put_ac' (l := setOf (onNames ds b2)) (F := F2) (base := H.length + 1) (Rp.ext (Rp.fr W2.out fun j hj => List.getElem?_set_ne (by rintro rfl; exact W2.ni (hid6 ▸ hj))) (Ext.app _ _)) W2.fr (by simp; omega) hkk.1 (by omega)) ?_
              rintro v S3 ⟨F3, he3, hv3, hf3, hm3⟩
              obtain ⟨W3, ho3⟩ := hyes hy _ S3 v F3 he3 hv3 hf3 hm3
              simp +contextual (dsimp := false) [hkw]
              exact LoopN.of (k + 1, S3, v, F3, b2.set i true, true) rfl ⟨h4, W3, Nat.le_of_lt ho3, fun _ => ho3, fun h => by cases h⟩ (by dsimp only; omega)
            · cases hq2' : ds[i].links[k].ask with
              | false =>
                have hy : lnkOn nm b2 ds[i].links[k] = false := by simp [lnkOn, hq1', hq2']
                simp +contextual (dsimp := false) [hbx2, hbT, hbS, hgS, E.idx, E.goB, E.le, E.lt, E.cell0, E.cell, E.ext, E'.idx, E'.goB, E'.le, E'.lt, E'.ext, E6.idx, E6.goB, E6.le, E6.lt, E6.cell0, hg6, hgE, Lnk.c, hkw, hbi, str_eq, hq1', hq2']
                exact LoopN.of (k + 1, _, sv2, F2, b2, ag2) rfl ⟨h4, W2.app _, ho2, ht2, hskip (.inr hy) []⟩ (by dsimp only; omega)
              | true =>
                obtain ⟨g1, g2⟩ := hbk i h3 _ hlm hq2'
                have hat : ((ds[i].links[k].at_.toNat : Nat) : Int) = ds[i].links[k].at_ := Int.toNat_of_nonneg g1
                have hab : ds[i].links[k].at_.toNat < b2.length := by omega
                obtain ⟨id7, o7, c7, e7, f7, ow7, cs7, Fi7, E7⟩ := SlR.get W2.bs ds[i].links[k].at_.toNat hab
                obtain ⟨rfl, rfl, -⟩ := E7.rep
                have hg7 : ∀ (T : Heap) (q : Blk → Prop), goB (hp2 ++ T) id7 q = q ⟨.cells c7 e7 f7, true, ow7⟩ := fun T q => goB_app E7.blk q
                have hix7 := E7.idx
                rw [hat] at hix7
                have hgd : b2.getD ds[i].links[k].at_.toNat false = b2[ds[i].links[k].at_.toNat] := by rw [List.getD_eq_getElem?_getD, List.getElem?_eq_getElem hab]; rfl
                cases hv7 : b2[ds[i].links[k].at_.toNat] with
                | false =>
                  have hy : lnkOn nm b2 ds[i].links[k] = false := by simp only [lnkOn, hgd, hv7, Bool.and_false, Bool.or_false, hq1', decide_false]
                  simp +contextual (dsimp := false) [hbx2, hbT, hbS, hgS, E.idx, E.goB, E.le, E.lt, E.cell0, E.cell, E.ext, E'.idx, E'.goB, E'.le, E'.lt, E'.ext, E6.idx, E6.goB, E6.le, E6.lt, E6.cell0, hg6, hgE, Lnk.c, hkw, hbi, str_eq, hq1', hq2', hix7, hg7, E7.le, E7.lt, E7.cell0, hv7]
                  exact LoopN.of (k + 1, _, sv2, F2, b2, ag2) rfl ⟨h4, W2.app _, ho2, ht2, hskip (.inr hy) []⟩ (by dsimp only; omega)
                | true =>
                  have hy : lnkOn nm b2 ds[i].links[k] = true := by simp only [lnkOn, hgd, hv7, hq2', Bool.and_self, Bool.or_true]
                  simp +contextual (dsimp := false) [hbx2, hbT, hbS, hgS, E.idx, E.goB, E.le, E.lt, E.cell0, E.cell, E.ext, E'.idx, E'.goB, E'.le, E'.lt, E'.ext, E6.idx, E6.goB, E6.le, E6.lt, E6.cell0, hg6, hgE, Lnk.c, hkw, hbi, str_eq, hq1', hq2', hix7, hg7, E7.le, E7.lt, E7.cell0, hv7]
                  have hout := setOf_len (onNames ds b2)
                  have honl : (onNames ds b2).length ≤ ds.length := by unfold onNames; rw [List.length_map]; exact Nat.le_trans (List.length_filter_le _ _) (by simp)
                  refine CallK.of ⟨_, Try.func18, rfl, rfl⟩ (l5Put_ac' (l := setOf (onNames ds b2)) (F := F2) (base := H.length + 1) (Rp.ext (Rp.fr W2.out fun j hj => List.getElem?_set_ne (by rintro rfl; exact W2.ni (hid6 ▸ hj))) (Ext.app _ _)) W2.fr (by simp; omega) hkk.1 (by omega)) ?_
                  rintro v S3 ⟨F3, he3, hv3, hf3, hm3⟩
                  obtain ⟨W3, ho3⟩ := hyes hy _ S3 v F3 he3 hv3 hf3 hm3
                  simp +contextual (dsimp := false) [hkw]
                  exact LoopN.of (k + 1, S3, v, F3, b2.set i true, true) rfl ⟨h4, W3, Nat.le_of_lt ho3, fun _ => ho3, fun h => by cases h⟩ (by dsimp only; omega)
        · rw [List.take_of_length_le (show ds[i].links.length ≤ k by omega)] at hc2
          simp +contextual (dsimp := false) [wrap_succ (show i < 9223372036854775807 by omega)]
          refine LoopN.of (i + 1, hp2, sv2, F2, b2, ag2) rfl ⟨h3, W2, ho2, ht2, fun h j hj hany => ?_⟩ (by dsimp only; omega)
          obtain ⟨g1, g2⟩ := hc2 h
          rcases Nat.lt_or_ge j i with hji | hji
          · exact g1 j hji hany
          · obtain rfl : j = i := by omega
            rw [hdi] at hany
            exact g2 hany
      · obtain rfl : i = ds.length := by omega
        refine LoopN.of (hp1, sv1, F1, b1, ag1) rfl ⟨W1, hc1⟩ ?_
        dsimp only
        cases ag1 with
        | false => simp; omega
        | true => have := ht1 rfl; simp; omega
end Go.Proofs.Ytehhjbomdohgoab

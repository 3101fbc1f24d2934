import Derived.Test.YtbigpkfdeaigeaaGreatDoorShelf
import Derived.Test.YtbigpkfdeaigeaaGreatDoorDat2
import Derived.Test.YtbigpkfdeaigeaaGreatDoorAm29
import Derived.Test.YtbigpkfdeaigeaaGreatDoorSpec
import Derived.Test.YtbigpkfdeaigeaaGreatDoorAccN
import Derived.Test.YtbigpkfdeaigeaaGreatDoorStr
import Derived.Test.YtbigpkfdeaigeaaGreatDoorAm28
import Derived.Test.YtbigpkfdeaigeaaGreatDoorAcc
/- Sorting names. No condition. -/
set_option linter.unusedSimpArgs false
set_option linter.unusedVariables false
namespace Go.Proofs.YtbigpkfdeaigeaaGreatDoor
open Go Go.Am Go.Proofs
set_option maxRecDepth 20000
variable {ng : Nat}
abbrev nmR : RepT (List UInt8) := strR
abbrev NmsR (own : Bool) : RepT (List (List UInt8)) := SlR own 1 nmR
theorem nms_cells {H : Heap} : ∀ {l : List (List UInt8)} {c : List Value} {F : List Nat}, RepL nmR H l c F → c = l.map (fun s => .string ⟨⟨s⟩⟩) ∧ F = [] ∧ ∀ x ∈ l, okS x
  | [], _, _, ⟨rfl, rfl⟩ => ⟨rfl, rfl, by simp⟩
  | x :: l, _, _, ⟨c1, c2, F1, F2, rfl, rfl, h1, h2⟩ => by
    obtain ⟨rfl, rfl, h⟩ := nms_cells h2
    obtain ⟨rfl, rfl, hx⟩ := h1
    exact ⟨by simp, rfl, fun y hy => (List.mem_cons.1 hy).elim (fun e => e ▸ hx) (h y)⟩
theorem cells_nms {H : Heap} : ∀ {l : List (List UInt8)}, (∀ x ∈ l, okS x) → RepL nmR H l (l.map (fun s => .string ⟨⟨s⟩⟩)) []
  | [], _ => ⟨rfl, rfl⟩
  | x :: l, h => ⟨[.string ⟨⟨x⟩⟩], _, [], [], rfl, rfl, ⟨rfl, rfl, h x (by simp)⟩, cells_nms fun y hy => h y (by simp [hy])⟩
/-- A world that has more blocks. -/
theorem rel_grow {E : Emb} {S : Heap} {w : World} (n : Nat) (h : Rel ng E S w) (os : Array Obj) : Rel ng E S (Sort.grow w os) ∧ Grow n E S w E S (Sort.grow w os) := by
  have hk : ∀ b, b < w.heap.size → (Sort.grow w os).heap[b]? = w.heap[b]? := fun b hb => by
    show (w.heap ++ os)[b]? = _
    rw [Array.getElem?_append_left hb]
  refine ⟨⟨fun id l he => ?_, h.apart, h.glob⟩, ⟨fun _ _ => rfl, rfl, rfl, rfl, by simp, fun b hb _ => hk b hb, fun id l bl h1 h2 h3 h4 _ => ⟨id, l, bl, h1, h2, h3, h4, rfl⟩⟩⟩
  obtain ⟨b, h1, h2, h3⟩ := h.blk id l he
  exact ⟨b, h1, by simp; omega, fun hl => (h3 hl).congr (hk _ h2)⟩
theorem sort_ac {l : List (List UInt8)} {s : Value} {F : List Nat} {H : Heap} (hs : NmsR true H l [s] F) :
    AC Tryz.prog ng 106 [s] H fun v S' => v = .tuple #[] ∧ NmsR true S' (l.mergeSort fun x y => decide (x ≤ y)) [s] F ∧ S'.length = H.length ∧ ∀ j, j ∉ F → S'[j]? = H[j]? := by
  intro E args' w hv hr hng
  obtain ⟨hsz, hvr⟩ := hv
  simp only [List.length_cons, List.length_nil] at hsz
  have hv0 := hvr 0 (by simp) (by omega)
  have hargs : args' = #[args'[0]'(by omega)] := by
    apply Array.ext
    · simp; omega
    · intro i h1 h2
      obtain rfl : i = 0 := by simpa using h2
      rfl
  rw [hargs]
  simp only [List.getElem_cons_zero] at hv0
  generalize args'[0]'(by omega) = a at hv0 ⊢
  obtain ⟨hbd, s', hs', hh⟩ := id hs
  obtain rfl : s = s' := by simpa using hs'
  rcases hh with ⟨rfl, rfl, h3 | ⟨h0, _⟩ | ⟨h0, _⟩⟩ | ⟨id, off, c, e, f, o, G, rfl, hb, ho, rfl, hle, hrp⟩
  · subst h3
    cases hv0
    refine (Tryz.slices_Sort_string_none none 0 w).mono ?_
    rintro ex w' ⟨rfl, rfl⟩
    exact ⟨.tuple #[], .tuple #[], H, E, rfl, ⟨rfl, by simpa using hs, rfl, fun _ _ => rfl⟩, .tuple rfl (fun i h => by simp at h), hr, Nat.le_refl _, Grow.refl _ _ _ _⟩
  · cases h0
  · cases h0
  · obtain rfl := ho rfl
    cases hv0 with
    | slice _ _ _ cap he hc hroom =>
      rename_i lc
      obtain ⟨b0, hb', hlt, hob⟩ := hr.blk _ _ he
      rw [hb] at hb'
      obtain rfl := Option.some.inj hb'
      obtain ⟨c', e', fr, hw, hrm, hbase, hcell, hfr⟩ := hob rfl
      obtain ⟨hcs, rfl, hok⟩ := nms_cells hrp
      obtain ⟨L, hL⟩ : ∃ L, L = l.mergeSort fun x y => decide (x ≤ y) := ⟨_, rfl⟩
      have hLl : L.length = l.length := by rw [hL]; simp
      have hLo : ∀ x ∈ L, okS x := fun x hx => hok x (by rw [hL] at hx; simpa using hx)
      have hcv : ∀ j (hj : j < l.length), c[off + j]? = some (.string ⟨⟨l[j]⟩⟩) := fun j hj => by
        have h1 := seg_get (c := c) (off := off) (n := l.length * 1) (i := j) (by omega)
        rw [hcs] at h1
        rw [← h1]
        simp [hj]
      have hH : Sort.Holds encStr w lc.blk (lc.base + off) l.toArray := by
        intro j hj
        have hj' : j < l.length := by simpa using hj
        have hjc : off + j < c.size := by omega
        obtain ⟨v', g1, g2⟩ := hcell (off + j) hjc
        have g3 := hcv j hj'
        rw [Array.getElem?_eq_getElem hjc] at g3
        rw [Option.some.inj g3] at g2
        have g4 : v' = .string ⟨⟨l[j]⟩⟩ := by cases g2; rfl
        subst g4
        refine ⟨?_, ?_⟩
        · simp only [World.cell?, hw]
          rw [show lc.base + off + j = lc.base + (off + j) by omega, g1]
          simp [hj']
        · have := hfr.1 rfl (lc.base + off + j) (by omega)
          simp only [World.frozen?, hw]
          simpa using this
      refine (Tryz.slices_Sort_string lc.blk (lc.base + off) cap l w hH hlt (by omega)).mono ?_
      rintro ex w' ⟨rfl, n, os, rfl⟩
      rw [← hL]
      obtain ⟨W, hW⟩ : ∃ W, W = Sort.putRow encStr (Sort.ahead w n) lc.blk (lc.base + off) L.toArray := ⟨_, rfl⟩
      rw [← hW]
      have hWh : W.heap = w.heap.modify lc.blk (Sort.onCells (Sort.putCells encStr (lc.base + off) L.toArray)) := by rw [hW]; rfl
      have hWs : W.heap.size = w.heap.size := by rw [hWh]; simp
      have hWo : ∀ k, k ≠ lc.blk → W.heap[k]? = w.heap[k]? := fun k hk => by
        rw [hWh, Array.getElem?_modify, if_neg (Ne.symm hk)]
      have hWb : W.heap[lc.blk]? = some (.cells (Sort.putCells encStr (lc.base + off) L.toArray c') e' fr) := by
        rw [hWh, Array.getElem?_modify, if_pos rfl, hw]
        rfl
      have hset := hr.set (w' := W) (b' := ⟨.cells (setL c off (L.map fun s => .string ⟨⟨s⟩⟩)) e f, true, true⟩) he hb rfl rfl hWs hWo rfl fun _ => by
        refine ⟨_, e', fr, hWb, by rw [hrm]; simp [Sort.putCells], by rw [setL_size]; exact hbase, fun i hi => ?_, hfr.1, hfr.2.1, fun hq => by obtain ⟨x1, x2⟩ := hfr.2.2 hq; exact ⟨x1, by rw [setL_size, ← x2]; simp [Sort.putCells]⟩⟩
        rw [setL_size] at hi
        have hci : (setL c off (L.map fun s => (.string ⟨⟨s⟩⟩ : Value)))[i]? = if off ≤ i ∧ i < off + (L.map fun s => (.string ⟨⟨s⟩⟩ : Value)).length then (L.map fun s => (.string ⟨⟨s⟩⟩ : Value))[i - off]? else c[i]? := setL_get _ _ _ _ (by simp; omega)
        obtain ⟨v', g1, g2⟩ := hcell i hi
        have hpc : (Sort.putCells encStr (lc.base + off) L.toArray c')[lc.base + i]? = some (if lc.base + off ≤ lc.base + i ∧ lc.base + i < lc.base + off + L.toArray.size then encStr L.toArray[lc.base + i - (lc.base + off)]! else v') := by
          simp only [Sort.putCells, Array.getElem?_mapIdx, g1, Option.map_some]
        refine ⟨_, hpc, ?_⟩
        rw [Array.getElem?_eq_getElem (by rw [setL_size]; exact hi)] at hci
        by_cases hin : off ≤ i ∧ i < off + L.length
        · rw [if_pos (by simpa using hin), List.getElem?_eq_getElem (by simp; omega)] at hci
          rw [Option.some.inj hci, if_pos (by simp; omega)]
          have e9 : lc.base + i - (lc.base + off) = i - off := by omega
          rw [e9, List.getElem_map]
          have : L.toArray[i - off]! = L[i - off] := by
            rw [getElem!_pos L.toArray (i - off) (by simp; omega)]
            simp
          rw [this]
          exact .string _
        · rw [if_neg (by simpa using hin), Array.getElem?_eq_getElem hi] at hci
          rw [Option.some.inj hci, if_neg (by simp; omega)]
          exact g2
      obtain ⟨r1, r2⟩ := rel_grow (ng := ng) H.length hset os
      have hg : Grow H.length E H w E _ W := Grow.set _ (b' := ⟨.cells (setL c off (L.map fun s => .string ⟨⟨s⟩⟩)) e f, true, true⟩) he hb rfl rfl hWs hWo (by rw [hW]; rfl) (by rw [hW]; rfl) (by rw [hW]; rfl)
      have hidl := (List.getElem?_eq_some_iff.1 hb).1
      refine ⟨.tuple #[], .tuple #[], _, E, rfl, ⟨rfl, ?_, by simp, fun j hj => List.getElem?_set_ne (by simpa using fun h => hj (by simp [h]))⟩, .tuple rfl (fun i h => by simp at h), r1, by simp, hg.trans (m := H.length) (Nat.le_refl _) r2⟩
      have hsg : seg (setL c off (L.map fun s => (.string ⟨⟨s⟩⟩ : Value))) off (L.length * 1) = L.map fun s => .string ⟨⟨s⟩⟩ := by
        apply List.ext_getElem?
        intro j
        by_cases hj : j < L.length
        · rw [seg_get (by omega), setL_get _ _ _ _ (by simp; omega), if_pos (by simp; omega)]
          congr 1; omega
        · rw [List.getElem?_eq_none (by rw [seg_length (by rw [setL_size]; omega)]; omega), List.getElem?_eq_none (by simp; omega)]
      refine ⟨by omega, _, rfl, .inr ⟨id, off, _, e, f, true, [], by rw [hLl], List.getElem?_set_self hidl, fun _ => rfl, rfl, by rw [setL_size, hLl]; exact hle, ?_⟩⟩
      rw [hsg]
      exact cells_nms hLo
end Go.Proofs.YtbigpkfdeaigeaaGreatDoor

/- Ascending lists of texts, as sets. No condition. -/
namespace Go.Am
open Go
set_option linter.unusedSimpArgs false
set_option linter.unusedVariables false

def Asc (l : List (List UInt8)) : Prop := l.Pairwise fun a b => ltS a b = true
/-- How many are lesser, at the front. -/
def lowN (l : List (List UInt8)) (x : List UInt8) : Nat := (l.takeWhile fun y => ltS y x).length
/-- Put in, once. -/
def insS (l : List (List UInt8)) (x : List UInt8) : List (List UInt8) := if l[lowN l x]? = some x then l else l.take (lowN l x) ++ x :: l.drop (lowN l x)
/-- The members, in order, each once. -/
def setOf (xs : List (List UInt8)) : List (List UInt8) := xs.foldl insS []
theorem lowN_eq {l : List (List UInt8)} {x : List UInt8} {k : Nat} (hk : k ≤ l.length) (h1 : ∀ j (hj : j < l.length), j < k → ltS l[j] x = true) (h2 : ∀ h : k < l.length, ltS l[k] x = false) : lowN l x = k := by
  unfold lowN
  induction l generalizing k with
  | nil => simp at hk; simp [hk]
  | cons a l ih =>
    cases k with
    | zero =>
      have := h2 (by simp)
      simp at this
      simp [List.takeWhile_cons, this]
    | succ k =>
      have h0 := h1 0 (by simp) (by omega)
      simp at h0
      rw [List.takeWhile_cons, if_pos (by simpa using h0), List.length_cons, ih (k := k) (by simpa using hk) (fun j hj hlt => by have := h1 (j + 1) (by simpa using hj) (by omega); simpa using this) (fun h => by have := h2 (by simpa using h); simpa using this)]
theorem takeW_take (l : List (List UInt8)) (x : List UInt8) : l.take (lowN l x) = l.takeWhile fun y => ltS y x := by
  unfold lowN
  exact (List.prefix_iff_eq_take.1 (List.takeWhile_prefix _)).symm
theorem insS_mem (l : List (List UInt8)) (x y : List UInt8) : y ∈ insS l x ↔ y ∈ l ∨ y = x := by
  unfold insS
  split
  · rename_i h
    refine ⟨.inl, fun hh => hh.elim id fun e => e ▸ ?_⟩
    obtain ⟨h1, h2⟩ := List.getElem?_eq_some_iff.1 h
    exact h2 ▸ List.getElem_mem h1
  · rw [List.mem_append, List.mem_cons]
    conv => rhs; lhs; rw [← List.take_append_drop (lowN l x) l]
    rw [List.mem_append]
    constructor
    · rintro (h | h | h)
      · exact .inl (.inl h)
      · exact .inr h
      · exact .inl (.inr h)
    · rintro ((h | h) | h)
      · exact .inl h
      · exact .inr (.inr h)
      · exact .inr (.inl h)
theorem insS_asc {l : List (List UInt8)} (h : Asc l) (x : List UInt8) : Asc (insS l x) := by
  unfold insS
  split
  · exact h
  · rename_i hne
    have hsp : Asc (l.take (lowN l x) ++ l.drop (lowN l x)) := by rw [List.take_append_drop]; exact h
    unfold Asc at hsp ⊢
    rw [List.pairwise_append] at hsp ⊢
    obtain ⟨h1, h2, h3⟩ := hsp
    have hlow : ∀ a ∈ l.take (lowN l x), ltS a x = true := by
      intro a ha
      rw [takeW_take] at ha
      exact List.all_eq_true.1 (List.all_takeWhile (l := l) (p := fun y => ltS y x)) a ha
    have hhigh : ∀ a ∈ l.drop (lowN l x), ltS x a = true := by
      intro a ha
      rcases Nat.lt_or_ge (lowN l x) l.length with hk | hk
      · have hd := List.drop_eq_getElem_cons hk
        have hz : ltS l[lowN l x] x = false := by
          have hnt := List.head?_dropWhile_not (p := fun y => ltS y x) (l := l)
          have hdw : l.dropWhile (fun y => ltS y x) = l.drop (lowN l x) := by
            have e1 := List.takeWhile_append_dropWhile (p := fun y => ltS y x) (l := l)
            have e2 := List.take_append_drop (lowN l x) l
            rw [takeW_take] at e2
            exact List.append_cancel_left (e1.trans e2.symm)
          rw [hdw, hd] at hnt
          simpa [hk] using hnt
        have hx0 : ltS x l[lowN l x] = true := ltS_total hz fun hc => hne (by rw [List.getElem?_eq_getElem hk, hc])
        rw [hd] at ha h2
        rcases List.mem_cons.1 ha with rfl | ha
        · exact hx0
        · exact ltS_trans hx0 ((List.pairwise_cons.1 h2).1 a ha)
      · rw [List.drop_of_length_le hk] at ha
        cases ha
    refine ⟨h1, List.pairwise_cons.2 ⟨hhigh, h2⟩, fun a ha b hb => ?_⟩
    rcases List.mem_cons.1 hb with rfl | hb
    · exact hlow a ha
    · exact h3 a ha b hb
theorem foldl_ins (xs : List (List UInt8)) : ∀ l, Asc l → Asc (xs.foldl insS l) ∧ ∀ y, y ∈ xs.foldl insS l ↔ y ∈ l ∨ y ∈ xs := by
  induction xs with
  | nil => intro l h; exact ⟨h, by simp⟩
  | cons x xs ih =>
    intro l h
    obtain ⟨h1, h2⟩ := ih (insS l x) (insS_asc h x)
    refine ⟨h1, fun y => ?_⟩
    rw [List.foldl_cons, h2, insS_mem, List.mem_cons, or_assoc]
theorem setOf_asc (xs : List (List UInt8)) : Asc (setOf xs) := (foldl_ins xs [] List.Pairwise.nil).1
theorem setOf_mem (xs : List (List UInt8)) (y : List UInt8) : y ∈ setOf xs ↔ y ∈ xs := by
  have := (foldl_ins xs [] List.Pairwise.nil).2 y
  simpa [setOf] using this
theorem Asc.nodup {l : List (List UInt8)} (h : Asc l) : l.Nodup := h.imp fun {a b} hab hc => by subst hc; rw [ltS_irrefl] at hab; cases hab
theorem Asc.uniq {l l' : List (List UInt8)} (h : Asc l) (h' : Asc l') (hm : ∀ y, y ∈ l ↔ y ∈ l') : l = l' := by
  have hp : l.Perm l' := (List.perm_ext_iff_of_nodup h.nodup h'.nodup).2 hm
  refine List.Perm.eq_of_pairwise (le := fun a b => ltS a b = true) (fun a b _ _ h1 h2 => ?_) h h' hp
  have := ltS_trans h1 h2
  rw [ltS_irrefl] at this
  cases this
theorem setOf_uniq {l xs : List (List UInt8)} (h : Asc l) (hm : ∀ y, y ∈ l ↔ y ∈ xs) : l = setOf xs := h.uniq (setOf_asc xs) fun y => by rw [hm, setOf_mem]
theorem setOf_congr {xs ys : List (List UInt8)} (hm : ∀ y, y ∈ xs ↔ y ∈ ys) : setOf xs = setOf ys := setOf_uniq (setOf_asc xs) fun y => by rw [setOf_mem, hm]
theorem setOf_snoc (xs : List (List UInt8)) (x : List UInt8) : setOf (xs ++ [x]) = insS (setOf xs) x := by simp [setOf]
/-- The names of a set, sorted. -/
theorem sort_setOf {l o xs : List (List UInt8)} (hn : l.Nodup) (hm : ∀ y, y ∈ l ↔ y ∈ xs) (hp : o.Perm l) : (o.mergeSort fun x y => decide (x ≤ y)) = setOf xs := by
  have hs : (o.mergeSort fun x y => decide (x ≤ y)).Pairwise fun a b => decide (a ≤ b) = true :=
    List.pairwise_mergeSort (fun a b c h1 h2 => by simp only [decide_eq_true_eq] at *; exact List.le_trans h1 h2) (fun a b => by simp only [Bool.or_eq_true, decide_eq_true_eq]; exact List.le_total a b) o
  have hpm := (List.mergeSort_perm o fun x y => decide (x ≤ y)).trans hp
  refine setOf_uniq ?_ fun y => (hpm.mem_iff).trans (hm y)
  have hnd : (o.mergeSort fun x y => decide (x ≤ y)).Nodup := hpm.nodup_iff.2 hn
  refine List.Pairwise.imp₂ (fun a b h1 h2 => ?_) hs hnd
  simp only [decide_eq_true_eq] at h1
  rw [ltS_iff]
  rcases Decidable.em (b ≤ a) with h3 | h3
  · exact absurd (List.le_antisymm h1 h3) h2
  · exact List.not_le.1 h3
theorem setOf_len (xs : List (List UInt8)) : (setOf xs).length ≤ xs.length := nodup_len (setOf_asc xs).nodup fun k hk => (setOf_mem xs k).1 hk
where nodup_len {α : Type} [DecidableEq α] : ∀ {u L : List α}, u.Nodup → (∀ k ∈ u, k ∈ L) → u.length ≤ L.length
  | [], _, _, _ => Nat.zero_le _
  | a :: u, L, hn, hs => by
    have hn' := List.nodup_cons.1 hn
    have ha := hs a (by simp)
    have ih := nodup_len (u := u) (L := L.erase a) hn'.2 fun k hk => (List.mem_erase_of_ne (by rintro rfl; exact hn'.1 hk)).2 (hs k (by simp [hk]))
    rw [List.length_erase_of_mem ha] at ih
    have := List.length_pos_of_mem ha
    simp only [List.length_cons]
    omega
end Go.Am

/- The names of a set, sorted. No condition. -/
set_option linter.unusedSimpArgs false
set_option linter.unusedVariables false
namespace Go.Proofs.YtbigpkfdeaigeaaGreatDoor
open Go Go.Am Go.Proofs
set_option maxRecDepth 20000
variable {ng : Nat}
theorem sorted_ac {l : List (List UInt8)} {m : Nat} {H : Heap} (hm : MapR kS H m (vS l)) (hok : ∀ x ∈ l, okS x) (hl : l.length ≤ 1048576) :
    AC Tryz.prog ng 52 [.map (some m)] H fun v S' => ∃ (o : List (List UInt8)) (F : List Nat), o.Perm l ∧ Ext H S' ∧ NmsR true S' (o.mergeSort fun x y => decide (x ≤ y)) [v] F ∧ Fresh H.length F := by
  refine AC.go [] Tryz.func52 rfl Tryz.ntmps52 rfl ⟨mixed, by kernel_rfl⟩ ?_
  simp +contextual (dsimp := false)
  refine RangeK.map und93 hm ?_
  intro b hit
  simp +contextual (dsimp := false)
  refine LoopA.up (σ := Heap × List Nat × Value × List Nat) [3, 6] (fun x => [(3, x.2.2.1)]) (fun x => x.1)
    (fun x => IterR kS x.1 H.length m (vS l) x.2.1 ∧ x.2.1.Nodup ∧ x.2.1.length ≤ l.length ∧ (∀ j, j < H.length → x.1[j]? = H[j]?) ∧ H.length + 1 ≤ x.1.length ∧ NmsR true x.1 (x.2.1.map fun i => l.getD i []) [x.2.2.1] x.2.2.2 ∧ Fresh (H.length + 1) x.2.2.2)
    (fun x => l.length - x.2.1.length) (_, [], .slice none 0 0, []) rfl ⟨hit, List.nodup_nil, by simp, fun j hj => get_ext hj, by simp, SlR.nil, Fresh.nil _⟩ ?_
  rintro ⟨hp, done, s, F⟩ ⟨hit, hnd, hdl, hfr, hle, hv, hf⟩
  dsimp only at hit hnd hdl hfr hle hv hf
  obtain ⟨a0, z0, rfl⟩ := hv.form
  have hdm : (done.map fun i => l.getD i []).length = done.length := by simp
  rw [hdm] at hv
  simp +contextual (dsimp := false)
  have hvl : (vS l).length = l.length := by simp [vS]
  refine NextK.map hit (fun i hi hni H' hit' hH' hl' => ?_) (fun hall => ?_)
  · have hi2 : i < l.length := by omega
    simp +contextual (dsimp := false)
    refine EntryK.map hi hit' ?_
    simp +contextual (dsimp := false)
    have hki : (vS l)[i].1 = l[i] := by simp [vS]
    have hmn : m ≠ H.length := fun hc => hit.1 hc.symm
    refine AppK.one (R := nmR) (l := done.map fun i => l.getD i []) (ex := 9) (fx := (0, 0)) (ox := true) (base := H.length + 1) (x := l[i]) (cx := [str l[i]]) (Fx := []) slt26 und26 ?_ hf ?_ ⟨rfl, rfl, hok _ (List.getElem_mem hi2)⟩ (Fresh.nil _) (by simp) ?_ ?_ (by decide) ?_
    · exact Rp.ext (Rp.fr hv fun j hj => hH' j (by have := hf.1 j hj; omega)) (Ext.app _ _)
    · simp [hki]
    · simp; omega
    · simp; omega
    intro s4 H4 F4 q1 q2 q3 q4 q5
    obtain ⟨a4, z4, rfl⟩ := q1.form
    simp only [List.length_append, List.length_cons, List.length_nil] at q3
    simp +contextual (dsimp := false)
    have hnd2 : (done ++ [i]).Nodup := List.nodup_append.2 ⟨hnd, by simp, fun a ha b hb hab => hni (by simp at hb; rw [← hb, ← hab]; exact ha)⟩
    have hin : ∀ j ∈ done ++ [i], j < (vS l).length := by
      obtain ⟨_, _, _, _, _, _, _, _, _, _, h⟩ := hit'
      exact h
    have hle2 : (done ++ [i]).length ≤ l.length := by
      have := nodup_sub_len (done ++ [i]) (List.range l.length) hnd2 fun k hk => List.mem_range.2 (by have := hin k hk; omega)
      simpa using this
    simp only [List.length_append, List.length_singleton] at hle2
    have k4 : ∀ j, j < H'.length → j ∉ F → H4[j]? = H'[j]? := fun j hj hm' => (q4 j (by simp; omega) hm').trans (get_ext hj)
    have hF0 : ∀ j, j ≤ H.length → j ∉ F := fun j hj hm' => by have := hf.1 j hm'; omega
    have hml : m < H.length := hm.lt
    refine LoopN.of (H4, done ++ [i], .slice a4 (done.length + 1) z4, F4) rfl ⟨hit'.fr (k4 _ (by omega) (hF0 _ (Nat.le_refl _))) (k4 _ (by omega) (hF0 _ (by omega))), hnd2, by simpa using hle2, fun j hj => (k4 j (by omega) (hF0 _ (by omega))).trans ((hH' j (by omega)).trans (hfr j hj)), by dsimp only; omega, ?_, q2⟩ (by simp only [List.length_append, List.length_singleton]; omega)
    dsimp only
    rw [List.map_append, List.map_cons, List.map_nil, show l.getD i [] = l[i] by simp [List.getD, hi2]]
    simp only [List.length_append, List.length_singleton, List.length_map] at q1
    exact q1
  · have hg : ∀ k, goEx (.tuple #[.bool false]) 0 k = k (.bool false) := fun k => by simp [goEx, extract?, isOver, goV]
    simp +contextual (dsimp := false) [hg]
    refine CallK.of ⟨_, Tryz.func106, rfl, rfl⟩ (sort_ac hv) ?_
    rintro v S' ⟨rfl, hv2, hl2, hf2⟩
    simp +contextual (dsimp := false)
    have hin : ∀ j ∈ done, j < (vS l).length := by
      obtain ⟨_, _, _, _, _, _, _, _, _, _, h⟩ := hit
      exact h
    have hp : done.Perm (List.range l.length) := (List.perm_ext_iff_of_nodup hnd List.nodup_range).2 fun i => ⟨fun h => List.mem_range.2 (by have := hin i h; omega), fun h => hall i (by have := List.mem_range.1 h; omega)⟩
    have hr : (List.range l.length).map (fun i => l.getD i []) = l := by
      apply List.ext_getElem
      · simp
      · intro i h1 h2
        simp [List.getD, h2]
    refine ⟨done.map fun i => l.getD i [], (hp.map _).trans (by rw [hr]), fun j hj => (hf2 j (fun hm' => by have := hf.1 j hm'; omega)).trans (hfr j hj), F, hv2, hf.weak (by omega)⟩
end Go.Proofs.YtbigpkfdeaigeaaGreatDoor

/- A text put into an ascending list. No condition. -/
set_option linter.unusedSimpArgs false
set_option linter.unusedVariables false
namespace Go.Proofs.YtbigpkfdeaigeaaGreatDoor
open Go Go.Am Go.Proofs
set_option maxRecDepth 20000
variable {ng : Nat}
theorem l5Put_ac' {l : List (List UInt8)} {s : Value} {F : List Nat} {H : Heap} {x : List UInt8} {base : Nat} (hs : StrsR true H l [s] F) (hf : Fresh base F) (hb : base ≤ H.length) (hx : okS x) (hl : l.length ≤ 1000000000) :
    AC Tryz.prog ng 47 [s, str x] H fun v S' => ∃ F', Ext H S' ∧ StrsR true S' (insS l x) [v] F' ∧ Fresh base F' ∧ ∀ j ∈ F', j ∈ F ∨ H.length ≤ j := by
  obtain ⟨a, z, rfl⟩ := hs.form
  refine (AC.mono (Q := fun v S' => Ext H S' ∧ ∃ F', StrsR true S' (insS l x) [v] F' ∧ Fresh base F' ∧ ∀ j ∈ F', j ∈ F ∨ H.length ≤ j) ?_ fun v S' ⟨h1, F', h2, h3⟩ => ⟨F', h1, h2, h3⟩)
  refine AC.go [] Tryz.func47 rfl Tryz.ntmps47 rfl ⟨mixed, by kernel_rfl⟩ ?_
  simp +contextual (dsimp := false)
  refine LoopA.upc (σ := Nat) [0, 1, 5] (fun i => [(5, int i)]) (fun i => i ≤ l.length ∧ ∀ j (hj : j < l.length), j < i → ltS l[j] x = true) (fun i => l.length - i) 0 rfl (by simp) ?_
  rintro i ⟨hi, hv⟩
  have hlow : (∀ h : i < l.length, ltS l[i] x = false) → lowN l x = i := fun h => lowN_eq hi hv h
  obtain ⟨sl, Fl, hcl⟩ := hs.cut (P := Tryz.prog) (et := 9) 0 i (by omega) hi siz9
  obtain ⟨hcl, -, -, -, -, -, hsl⟩ := hcl (fun _ => rfl)
  obtain ⟨sr, Fr, hcr⟩ := hs.weak.cut (P := Tryz.prog) (et := 9) i l.length (by omega) (Nat.le_refl _) siz9
  obtain ⟨hcr, -, -, -, -, hsr, -⟩ := hcr (fun h => by cases h)
  have hsl := hsl rfl
  have hsr := hsr rfl
  rw [List.drop_zero] at hcl
  rw [List.take_length] at hcr
  obtain ⟨al, zl, rfl⟩ := hcl.form
  obtain ⟨ar, zr, rfl⟩ := hcr.form
  rw [List.length_take] at hcl hsl
  rw [List.length_drop] at hcr hsr
  simp +contextual (dsimp := false)
  refine ifA_dec (fun h3 => ?_) (fun h3 => ?_)
  · obtain ⟨id, o, c, e, f, ow, cs, Fi, E⟩ := SlR.get hs i h3
    obtain ⟨rfl, rfl, hok⟩ := E.rep
    simp +contextual (dsimp := false) [E.idx, E.goB, E.le, E.cell0, h3, wrap_succ (show i < 9223372036854775807 by omega)]
    refine ifA_intro (fun h4 => ?_) (fun h4 => ?_)
    · exact LoopN.of (i + 1) rfl ⟨h3, fun j hj hlt => by
        rcases Nat.lt_or_ge j i with h | h
        · exact hv j hj h
        · obtain rfl : j = i := by omega
          exact h4⟩ (by omega)
    · have hlow := hlow fun _ => h4
      refine ifA_dec (fun h5 => ?_) (fun h5 => ?_)
      · rw [insS, hlow, if_pos (by rw [List.getElem?_eq_getElem h3, h5])]
        exact ⟨F, hs, hf, fun j hj => .inl hj⟩
      · have hni : ¬ l[i]? = some x := by rw [List.getElem?_eq_getElem h3]; simpa using h5
        rw [hsl]
        simp +contextual (dsimp := false)
        refine AppK.many (R := strR) (base := base) (l2 := l.take i) slt26 und26 (SlR.mt (R := strR) (e := 9) (f := (0, 0)) (j := H.length) (by simp)) (Fresh.one hb) (Rp.ext hcl (Ext.app _ _)) (by rw [hcl.flatF]; exact Fresh.nil _) (by rw [hcl.flatF]; simp) (by simp; omega) (by simp; omega) (by decide) ?_
        intro s1 H1 F1 q1 q2 q3 q4 q5
        rw [List.nil_append] at q1
        obtain ⟨a1, z1, rfl⟩ := q1.form
        rw [List.length_take] at q1
        simp only [List.length_append, List.length_singleton] at q3 q4 q5
        have e1 : Ext H H1 := fun j hj => (q4 j (by omega) (by simp; omega)).trans (get_ext hj)
        simp +contextual (dsimp := false)
        refine AppK.one (R := strR) (ex := 9) (fx := (0, 0)) (ox := true) (base := base) (x := x) (cx := [str x]) (Fx := []) slt26 und26 (Rp.ext q1 (Ext.app _ _)) q2 (by simp) ⟨rfl, rfl, hx⟩ (Fresh.nil _) (by simp) (by simp; omega) (by simp; omega) (by decide) ?_
        intro s2 H2 F2 r1 r2 r3 r4 r5
        obtain ⟨a2, z2, rfl⟩ := r1.form
        simp only [List.length_append, List.length_take, List.length_cons, List.length_nil, Nat.zero_add] at r1
        simp only [List.length_append, List.length_singleton] at r3 r4 r5
        have hF1 : ∀ j, j < H.length → j ∉ F1 := fun j hj hm => by
          rcases q5 j hm with h | h | h
          · simp at h; omega
          · rw [hcl.flatF] at h; cases h
          · omega
        have e2 : Ext H H2 := fun j hj => (r4 j (by omega) (hF1 j hj)).trans ((get_ext (by omega)).trans (e1 j hj))
        simp +contextual (dsimp := false)
        rw [hsr]
        simp +contextual (dsimp := false)
        refine AppK.many (R := strR) (base := base) (l2 := l.drop i) slt26 und26 r1 r2 (Rp.ext hcr e2) (by rw [hcr.flatF]; exact Fresh.nil _) (by rw [hcr.flatF]; simp) (by omega) (by simp; omega) (by decide) ?_
        intro s3 H3 F3 t1 t2 t3 t4 t5
        obtain ⟨a3, z3, rfl⟩ := t1.form
        have hF2 : ∀ j, j < H.length → j ∉ F2 := fun j hj hm => by
          rcases r5 j hm with h | h | h
          · exact hF1 j hj h
          · cases h
          · omega
        simp +contextual (dsimp := false)
        have hnew : ∀ j ∈ F3, H.length ≤ j := fun j hj => by
          rcases t5 j hj with h | h | h
          · rcases Nat.lt_or_ge j H.length with hl' | hl'
            · exact absurd h (hF2 j hl')
            · exact hl'
          · rw [hcr.flatF] at h; cases h
          · omega
        refine ⟨fun j hj => (t4 j (by omega) (hF2 j hj)).trans (e2 j hj), F3, ?_, t2, fun j hj => .inr (hnew j hj)⟩
        have e3 : insS l x = l.take i ++ [x] ++ l.drop i := by
          rw [insS, hlow, if_neg hni]
          simp
        rw [e3, show min i l.length + (l.length - i + 1) = (l.take i ++ [x] ++ l.drop i).length by simp <;> omega]
        exact t1
  · have hlow := hlow fun h => absurd h h3
    have hni : ¬ l[i]? = some x := by rw [List.getElem?_eq_none (by omega)]; simp
    rw [hsl]
    simp +contextual (dsimp := false)
    refine AppK.many (R := strR) (base := base) (l2 := l.take i) slt26 und26 (SlR.mt (R := strR) (e := 9) (f := (0, 0)) (j := H.length) (by simp)) (Fresh.one hb) (Rp.ext hcl (Ext.app _ _)) (by rw [hcl.flatF]; exact Fresh.nil _) (by rw [hcl.flatF]; simp) (by simp; omega) (by simp; omega) (by decide) ?_
    intro s1 H1 F1 q1 q2 q3 q4 q5
    rw [List.nil_append] at q1
    obtain ⟨a1, z1, rfl⟩ := q1.form
    rw [List.length_take] at q1
    simp only [List.length_append, List.length_singleton] at q3 q4 q5
    have e1 : Ext H H1 := fun j hj => (q4 j (by omega) (by simp; omega)).trans (get_ext hj)
    simp +contextual (dsimp := false)
    refine AppK.one (R := strR) (ex := 9) (fx := (0, 0)) (ox := true) (base := base) (x := x) (cx := [str x]) (Fx := []) slt26 und26 (Rp.ext q1 (Ext.app _ _)) q2 (by simp) ⟨rfl, rfl, hx⟩ (Fresh.nil _) (by simp) (by simp; omega) (by simp; omega) (by decide) ?_
    intro s2 H2 F2 r1 r2 r3 r4 r5
    obtain ⟨a2, z2, rfl⟩ := r1.form
    simp only [List.length_append, List.length_take, List.length_cons, List.length_nil, Nat.zero_add] at r1
    simp only [List.length_append, List.length_singleton] at r3 r4 r5
    have hF1 : ∀ j, j < H.length → j ∉ F1 := fun j hj hm => by
      rcases q5 j hm with h | h | h
      · simp at h; omega
      · rw [hcl.flatF] at h; cases h
      · omega
    have e2 : Ext H H2 := fun j hj => (r4 j (by omega) (hF1 j hj)).trans ((get_ext (by omega)).trans (e1 j hj))
    simp +contextual (dsimp := false)
    rw [hsr]
    simp +contextual (dsimp := false)
    refine AppK.many (R := strR) (base := base) (l2 := l.drop i) slt26 und26 r1 r2 (Rp.ext hcr e2) (by rw [hcr.flatF]; exact Fresh.nil _) (by rw [hcr.flatF]; simp) (by omega) (by simp; omega) (by decide) ?_
    intro s3 H3 F3 t1 t2 t3 t4 t5
    obtain ⟨a3, z3, rfl⟩ := t1.form
    have hF2 : ∀ j, j < H.length → j ∉ F2 := fun j hj hm => by
      rcases r5 j hm with h | h | h
      · exact hF1 j hj h
      · cases h
      · omega
    simp +contextual (dsimp := false)
    have hnew : ∀ j ∈ F3, H.length ≤ j := fun j hj => by
      rcases t5 j hj with h | h | h
      · rcases Nat.lt_or_ge j H.length with hl' | hl'
        · exact absurd h (hF2 j hl')
        · exact hl'
      · rw [hcr.flatF] at h; cases h
      · omega
    refine ⟨fun j hj => (t4 j (by omega) (hF2 j hj)).trans (e2 j hj), F3, ?_, t2, fun j hj => .inr (hnew j hj)⟩
    have e3 : insS l x = l.take i ++ [x] ++ l.drop i := by
      rw [insS, hlow, if_neg hni]
      simp
    rw [e3, show min i l.length + (l.length - i + 1) = (l.take i ++ [x] ++ l.drop i).length by simp <;> omega]
    exact t1
theorem l5Put_ac {l : List (List UInt8)} {s : Value} {F : List Nat} {H : Heap} {x : List UInt8} {base : Nat} (hs : StrsR true H l [s] F) (hf : Fresh base F) (hb : base ≤ H.length) (hx : okS x) (hl : l.length ≤ 1000000000) :
    AC Tryz.prog ng 47 [s, str x] H fun v S' => ∃ F', Ext H S' ∧ StrsR true S' (insS l x) [v] F' ∧ Fresh base F' :=
  (l5Put_ac' hs hf hb hx hl).mono fun v S' ⟨F', h1, h2, h3, _⟩ => ⟨F', h1, h2, h3⟩
end Go.Proofs.YtbigpkfdeaigeaaGreatDoor

/- What Sources, Names and Depends compute. No condition. -/
namespace Go.Am
open Go
set_option linter.unusedSimpArgs false
set_option linter.unusedVariables false

def allNames (ds : List Deed) : List (List UInt8) := ds.flatMap fun d => d.name :: d.links.map (·.name)
def namesOf (ds : List Deed) : List (List UInt8) := if accOk ds then setOf (allNames ds) else []
theorem accOk_len {ds : List Deed} (h : accOk ds = true) : ds.length ≤ 400 ∧ 1 ≤ ds.length := by
  simp only [accOk, decide_eq_true_eq] at h
  unfold checkAcc at h
  split at h
  · cases h
  · omega
theorem accOk_deeds {ds : List Deed} (h : accOk ds = true) : ∀ i, i < ds.length → deedOk ds i (dAt ds i) = true := by
  simp only [accOk, decide_eq_true_eq] at h
  unfold checkAcc at h
  split at h
  · cases h
  · split at h
    · cases h
    · rename_i hn
      intro i hi
      have := firstI_no hn i hi
      simpa using this
theorem linkOk_len {ds : List Deed} {i : Nat} {d : Deed} (h : deedOk ds i d = true) : d.links.length ≤ 200 := by
  simp only [deedOk, Bool.and_eq_true] at h
  obtain ⟨_, h3⟩ := h
  split at h3
  · simp only [plainD, Bool.and_eq_true, decide_eq_true_eq] at h3; omega
  · split at h3
    · simp only [plainD, Bool.and_eq_true, decide_eq_true_eq] at h3; omega
    · split at h3
      · simp only [Bool.and_eq_true, decide_eq_true_eq] at h3; omega
      · cases h3
theorem sumLinks_le (f : Deed → Nat) (c : Nat) : ∀ (ds : List Deed), (∀ d ∈ ds, f d ≤ c) → (ds.map f).sum ≤ c * ds.length
  | [], _ => by simp
  | d :: ds, h => by
    have h1 := h d (by simp)
    have h2 := sumLinks_le f c ds fun x hx => h x (by simp [hx])
    simp only [List.map_cons, List.sum_cons, List.length_cons]
    rw [Nat.mul_succ]
    omega
theorem allNames_len {ds : List Deed} (h : accOk ds = true) : (allNames ds).length ≤ 201 * 400 := by
  have h1 := accOk_len h
  have h2 := accOk_deeds h
  unfold allNames
  rw [List.length_flatMap]
  refine Nat.le_trans (sumLinks_le _ 201 ds fun d hd => ?_) (Nat.mul_le_mul_left 201 h1.1)
  obtain ⟨i, hi, rfl⟩ := List.mem_iff_getElem.1 hd
  have := linkOk_len (h2 i hi)
  rw [dAt_lt hi] at this
  simp
  omega
theorem nodup_put {l : List (List UInt8)} {a : List UInt8} (h : l.Nodup) : (if a ∈ l then l else l ++ [a]).Nodup := by
  split
  · exact h
  · rename_i hn
    rw [List.nodup_append]
    exact ⟨h, by simp, fun x hx y hy e => hn (by simp at hy; rw [← hy, ← e]; exact hx)⟩
theorem mem_put {l : List (List UInt8)} {a x : List UInt8} : x ∈ (if a ∈ l then l else l ++ [a]) ↔ x ∈ l ∨ x = a := by
  split
  · rename_i h
    exact ⟨.inl, fun hh => hh.elim id fun e => e ▸ h⟩
  · simp
end Go.Am

/- Sources, both. No condition. -/
set_option linter.unusedSimpArgs false
set_option linter.unusedVariables false
namespace Go.Proofs.YtbigpkfdeaigeaaGreatDoor
open Go Go.Am Go.Proofs
set_option maxRecDepth 20000
variable {ng : Nat}
theorem putP_vS (a : List UInt8) : ∀ l : List (List UInt8), putP a (.bool true) (vS l) = vS (if a ∈ l then l else l ++ [a])
  | [] => by simp [vS, putP]
  | b :: l => by
    have ih := putP_vS a l
    unfold vS at ih ⊢
    by_cases h : a = b
    · simp [putP, h]
    · by_cases hm : a ∈ l
      · rw [if_pos hm] at ih
        rw [if_pos (by simp [hm]), List.map_cons, putP, if_neg h, ih]
      · rw [if_neg hm] at ih
        rw [if_neg (by simp [hm, h]), List.map_cons, putP, if_neg h, ih]
        simp
end Go.Proofs.YtbigpkfdeaigeaaGreatDoor

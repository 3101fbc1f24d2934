/- Laid variables; laws that read them; calls that leave a new row. No condition. -/
import Derived.Test.YtephpieeibcihaaGreatDoorAm24
import Derived.Test.YtephpieeibcihaaGreatDoorAm26
import Derived.Lib.LaidTab
namespace Go.Am
open Go Go.Deep Go.ChangeShapes Go.RowKit
set_option linter.unusedSimpArgs false
set_option linter.unusedVariables false

def roomAt (W : World) (g : Nat) : Nat := match W.heap[g]? with
  | some (.cells c _ _) => c.size
  | _ => 0
/-- The variables, nothing told of them. -/
def varE (W : World) (ng : Nat) : Emb := fun id => if id < ng then some ⟨id, 0, roomAt W id⟩ else none
theorem Im.vars {W : World} {ng : Nat} (h : ng ≤ W.heap.size) : Im (varE W ng) (List.replicate ng deadBlk) W := ⟨fun id l he => by
  unfold varE at he
  split at he
  · rename_i hid
    obtain rfl := Option.some.inj he
    exact ⟨deadBlk, by rw [List.getElem?_replicate, if_pos hid], rfl, by dsimp only; omega, fun hl => by cases hl⟩
  · cases he⟩
/-- A variable of which something is told. -/
theorem Im.tell {E : Emb} {S : Heap} {W : World} (h : Im E S W) {id : Nat} {l : Loc} (he : E id = some l) {o : Obj} (ho : ObjR E false l W o) : Im E (S.set id ⟨o, true, false⟩) W := ⟨fun i li hi => by
  by_cases hc : id = i
  · subst hc
    rw [he] at hi
    obtain rfl := Option.some.inj hi
    obtain ⟨b, h1, h2, h3, h4⟩ := h.blk id l he
    exact ⟨_, List.getElem?_set_self (List.getElem?_eq_some_iff.1 h1).1, rfl, h3, fun _ => ho⟩
  · obtain ⟨b, h1, h2, h3, h4⟩ := h.blk i li hi
    exact ⟨b, (List.getElem?_set_ne hc).trans h1, h2, h3, h4⟩⟩

theorem Rel.pushAt {ng : Nat} {E : Emb} {S : Heap} {w w' : World} (h : Rel ng E S w) (bel : Below w.heap.size w w') {A room : Nat} (hA : w.heap.size ≤ A) (hA' : A < w'.heap.size) (b : Blk)
    (ho : b.live = true → ObjR (Emb.push E S.length ⟨A, 0, room⟩) b.own ⟨A, 0, room⟩ w' b.obj) :
    Rel ng (Emb.push E S.length ⟨A, 0, room⟩) (S ++ [b]) w' ∧ Grow S.length E S w (Emb.push E S.length ⟨A, 0, room⟩) (S ++ [b]) w' := by
  have hlt : ∀ id l, E id = some l → l.blk < w.heap.size := fun id l he => by
    obtain ⟨b0, h1, h2, h3⟩ := h.blk id l he
    exact h2
  refine ⟨⟨fun id l he => ?_, fun i j li lj bi bj hi hj gi gj hli hlj hoi hij => ?_, fun g hg => ?_⟩, fun id hid => ?_, bel.os, bel.tape, bel.output, bel.size, fun k hk _ => bel.block k hk, fun id l0 bl he hs h1 h2 hl => ?_⟩
  · simp only [Emb.push] at he
    split at he
    · rename_i hid
      subst hid
      obtain rfl := Option.some.inj he
      exact ⟨b, by simp, hA', ho⟩
    · obtain ⟨b0, h1, h2, h3⟩ := h.blk id l he
      exact ⟨b0, by rw [List.getElem?_append_left (h.lt he)]; exact h1, by have := bel.size; omega, fun hl => ((h3 hl).mono (Emb.push_mono h _)).congr (bel.block _ h2)⟩
  · simp only [Emb.push] at hi hj
    split at hi <;> split at hj
    · omega
    · obtain rfl := Option.some.inj hi
      have := hlt j lj hj
      show A ≠ lj.blk
      omega
    · obtain rfl := Option.some.inj hj
      have := hlt i li hi
      show li.blk ≠ A
      omega
    · rw [List.getElem?_append_left (h.lt hi)] at gi
      rw [List.getElem?_append_left (h.lt hj)] at gj
      exact h.apart i j li lj bi bj hi hj gi gj hli hlj hoi hij
  · obtain ⟨r, hr, hw⟩ := h.glob g hg
    exact ⟨r, Emb.push_mono h _ _ _ hr, fun c e f hc => hw c e f (by rw [List.getElem?_append_left (h.lt hr)] at hc; exact hc)⟩
  · simp only [Emb.push]; rw [if_neg (by omega)]
  · simp only [Emb.push] at he
    split at he
    · obtain rfl := Option.some.inj he
      dsimp only at hl
      omega
    · rw [List.getElem?_append_left (h.lt he)] at hs
      exact ⟨id, l0, bl, he, hs, h1, h2, rfl⟩
/-- A call that leaves all as it was, and a new row of one-celled values: a slice over it. -/
theorem AC.ofRow {P : Program} {ng : Nat} {f : FuncId} {args : List Value} {S : Heap} {e : TypeId} {vs : List Value} (hf : args.all Am.flat = true) (hvs : ∀ v ∈ vs, flat0 v = true)
    (h : ∀ w, Calls P f args.toArray w fun ex w' => ∃ A n, ex = .returned (.slice (some ⟨A, 0, none⟩) vs.length n) ∧ w.heap.size ≤ A ∧ w'.ownsRow w.heap.size e 1 (.slice (some ⟨A, 0, none⟩) vs.length n) vs.length vs ∧ Below w.heap.size w w') :
    AC P ng f args S fun v S' => v = .slice (some ⟨S.length, 0, none⟩) vs.length 1 ∧ S' = S ++ [⟨.cells vs.toArray e (0, 1), true, true⟩] := by
  intro E args' w h1 h2 h3
  rw [VRs_flat hf h1]
  refine (h w).mono ?_
  rintro ex w' ⟨A, n, rfl, hA, hrow, bel⟩
  obtain ⟨_, hrow⟩ := hrow
  rcases hrow with ⟨hv, _⟩ | ⟨g, cap, cur, hv, hb, hg, hnc, hcm, hcs, htake⟩
  · cases hv
  · injection hv with hv1 hv2 hv3
    injection hv1 with hv1
    injection hv1 with hv1 _ _
    subst hv1; subst hv3
    rw [Nat.mul_one] at hcs htake
    have hAlt : A < w'.heap.size := (Array.getElem?_eq_some_iff.1 hg).1
    obtain ⟨r1, r2⟩ := h2.pushAt bel (room := cur.size) hA hAlt ⟨.cells vs.toArray e (0, 1), true, true⟩ fun _ => by
      refine ⟨cur, e, (0, 0), hg, rfl, by simp; omega, fun i hi => ?_, fun _ o _ => by simp, fun _ => rfl, fun hq => by simp at hq⟩
      have hi' : i < vs.length := by simpa using hi
      have hcell : cur[i]? = some vs[i] := by
        have h4 : (cur.toList.take vs.length)[i]? = vs[i]? := by rw [htake]
        rw [List.getElem?_take, if_pos hi', Array.getElem?_toList] at h4
        rw [h4, List.getElem?_eq_getElem hi']
      refine ⟨vs[i], by simpa using hcell, ?_⟩
      have : vs.toArray[i] = vs[i] := by simp
      rw [this]
      exact VR.refl0 _ (hvs _ (List.getElem_mem hi'))
    refine ⟨_, _, _, _, rfl, ⟨rfl, rfl⟩, ?_, r1, by simp, r2⟩
    have := VR.slice (E := Emb.push E S.length ⟨A, 0, cur.size⟩) (id := S.length) (l := ⟨A, 0, cur.size⟩) 0 vs.length 1 n (push_self _ _ _) hnc (by simp; omega)
    simpa using this
end Go.Am

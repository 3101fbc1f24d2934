/- Laid variables; laws that read them; calls that leave a new row. No condition. -/
import Derived.Test.YtbigpkfdeaigeaaDoorAm24
import Derived.Test.YtbigpkfdeaigeaaDoorAm26
import Derived.Lib.LaidTab
namespace Go.Am
open Go Go.Deep Go.ChangeShapes Go.RowKit
set_option linter.unusedSimpArgs false
set_option linter.unusedVariables false

def roomAt (W : World) (g : Nat) : Nat := match W.heap[g]? with
  | some (.cells c _ _) => c.size
  | _ => 0
/-- The variables, nothing told of them. -/
def varE (W : World) (ng : Nat) : Emb := fun id => if id < ng then some ⟨id, 0, roomAt W id⟩ else none
theorem Im.vars {W : World} {ng : Nat} (h : ng ≤ W.heap.size) : Im (varE W ng) (List.replicate ng deadBlk) W := ⟨fun id l he => by
  unfold varE at he
  split at he
  · rename_i hid
    obtain rfl := Option.some.inj he
    exact ⟨deadBlk, by rw [List.getElem?_replicate, if_pos hid], rfl, by dsimp only; omega, fun hl => by cases hl⟩
  · cases he⟩
/-- A variable of which something is told. -/
theorem Im.tell {E : Emb} {S : Heap} {W : World} (h : Im E S W) {id : Nat} {l : Loc} (he : E id = some l) {o : Obj} (ho : ObjR E false l W o) : Im E (S.set id ⟨o, true, false⟩) W := ⟨fun i li hi => by
  by_cases hc : id = i
  · subst hc
    rw [he] at hi
    obtain rfl := Option.some.inj hi
    obtain ⟨b, h1, h2, h3, h4⟩ := h.blk id l he
    exact ⟨_, List.getElem?_set_self (List.getElem?_eq_some_iff.1 h1).1, rfl, h3, fun _ => ho⟩
  · obtain ⟨b, h1, h2, h3, h4⟩ := h.blk i li hi
    exact ⟨b, (List.getElem?_set_ne hc).trans h1, h2, h3, h4⟩⟩

end Go.Am

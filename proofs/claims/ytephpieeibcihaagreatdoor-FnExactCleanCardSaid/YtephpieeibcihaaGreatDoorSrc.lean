import Derived.Test.YtephpieeibcihaaGreatDoorShelf
import Derived.Test.YtephpieeibcihaaGreatDoorDat2
import Derived.Test.YtephpieeibcihaaGreatDoorAm29
import Derived.Test.YtephpieeibcihaaGreatDoorMch
import Derived.Test.YtephpieeibcihaaGreatDoorAccN
import Derived.Test.YtephpieeibcihaaGreatDoorRsw
import Derived.Test.YtephpieeibcihaaGreatDoorAm28
import Derived.Test.YtephpieeibcihaaGreatDoorAcc
/- Sorting names. No condition. -/
set_option linter.unusedSimpArgs false
set_option linter.unusedVariables false
namespace Go.Proofs.YtephpieeibcihaaGreatDoor
open Go Go.Am Go.Proofs
set_option maxRecDepth 20000
variable {ng : Nat}
end Go.Proofs.YtephpieeibcihaaGreatDoor

/- Ascending lists of texts, as sets. No condition. -/
namespace Go.Am
open Go
set_option linter.unusedSimpArgs false
set_option linter.unusedVariables false

where nodup_len {α : Type} [DecidableEq α] : ∀ {u L : List α}, u.Nodup → (∀ k ∈ u, k ∈ L) → u.length ≤ L.length
  | [], _, _, _ => Nat.zero_le _
  | a :: u, L, hn, hs => by
    have hn' := List.nodup_cons.1 hn
    have ha := hs a (by simp)
    have ih := nodup_len (u := u) (L := L.erase a) hn'.2 fun k hk => (List.mem_erase_of_ne (by rintro rfl; exact hn'.1 hk)).2 (hs k (by simp [hk]))
    rw [List.length_erase_of_mem ha] at ih
    have := List.length_pos_of_mem ha
    simp only [List.length_cons]
    omega
end Go.Am

/- The names of a set, sorted. No condition. -/
set_option linter.unusedSimpArgs false
set_option linter.unusedVariables false
namespace Go.Proofs.YtephpieeibcihaaGreatDoor
open Go Go.Am Go.Proofs
set_option maxRecDepth 20000
variable {ng : Nat}
end Go.Proofs.YtephpieeibcihaaGreatDoor

/- A text put into an ascending list. No condition. -/
set_option linter.unusedSimpArgs false
set_option linter.unusedVariables false
namespace Go.Proofs.YtephpieeibcihaaGreatDoor
open Go Go.Am Go.Proofs
set_option maxRecDepth 20000
variable {ng : Nat}
end Go.Proofs.YtephpieeibcihaaGreatDoor

/- What Sources, Names and Depends compute. No condition. -/
namespace Go.Am
open Go
set_option linter.unusedSimpArgs false
set_option linter.unusedVariables false

end Go.Am

/- Sources, both. No condition. -/
set_option linter.unusedSimpArgs false
set_option linter.unusedVariables false
namespace Go.Proofs.YtephpieeibcihaaGreatDoor
open Go Go.Am Go.Proofs
set_option maxRecDepth 20000
variable {ng : Nat}
end Go.Proofs.YtephpieeibcihaaGreatDoor

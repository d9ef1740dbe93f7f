/- Several texts in one: lemmas and walks of the functions that the law reaches. -/
import Derived.Test.YtbgmbanebmlghaaGreatDoorY10
import Derived.BigRegion
import Derived.Deep.RegionHeld3
import Derived.Deep.RegionLaw

namespace Go.Proofs.YtbgmbanebmlghaaGreatDoor
open Go.RowKit Go.Sort
set_option linter.unusedVariables false

theorem PR.alloc {w : World} {B g cap N : Nat} {pre L post : List Int} (h : PR w B g cap N pre L post) (o : Obj) : PR (w.alloc o) B g cap N pre L post := ⟨own_below h.own (Nat.le_refl _) ((Below.refl _ _).alloc (Nat.le_refl _) o)⟩

end Go.Proofs.YtbgmbanebmlghaaGreatDoor

namespace Go.Proofs.YtbgmbanebmlghaaGreatDoor
open Go.RowKit Go.Sort
set_option linter.unusedVariables false
theorem PR.below {w w' : World} {B g cap N : Nat} {pre L post : List Int} (h : PR w B g cap N pre L post) (hb : Below w.heap.size w w') : PR w' B g cap N pre L post := ⟨own_below h.own (Nat.le_refl _) hb⟩

end Go.Proofs.YtbgmbanebmlghaaGreatDoor


/- Several texts in one: lemmas and walks of the functions that the law reaches. -/
import Derived.Test.YtbgmbanebmlghaaGreatDoorY19
import Derived.IntWalk

namespace Go.Proofs.YtbgmbanebmlghaaGreatDoor
open Go.RowKit
set_option linter.unusedVariables false

theorem sumL_next {s : ByteArray} {k : Nat} (hk : k < s.size) : Tx.sumL ((bs s).take (k + 1)) = (41 * Tx.sumL ((bs s).take k) + s[k].toNat + 1) % 999979 := by
  rw [bs_take s k hk]; simp [Tx.sumL, List.foldl_append, Tx.sumStep]

end Go.Proofs.YtbgmbanebmlghaaGreatDoor


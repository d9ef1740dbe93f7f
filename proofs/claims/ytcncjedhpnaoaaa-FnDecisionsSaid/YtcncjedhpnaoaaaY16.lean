/- Several texts in one: lemmas and walks of the functions that the law reaches. -/
import Derived.Test.YtcncjedhpnaoaaaY15
import Derived.Deep.LoopGhost

namespace Go.Proofs.Ytcncjedhpnaoaaa
open Go.RowKit Go.Sort
set_option linter.unusedVariables false

theorem first_succ (k : Nat) : Pm.first (k + 1) = Pm.first k ++ [(k : Int)] := by simp [Pm.first, List.range_succ]
end Go.Proofs.Ytcncjedhpnaoaaa


/- Several texts in one: lemmas and walks of the functions that the law reaches. -/
import Derived.Test.YtcdfinkefahloaaY0
import Derived.Lib.SlicesCompact

namespace Go.Proofs.Ytcdfinkefahloaa.Mg
set_option linter.unusedVariables false
def sumL (l : List Int) : Int := l.foldl (· + ·) 0
end Go.Proofs.Ytcdfinkefahloaa.Mg


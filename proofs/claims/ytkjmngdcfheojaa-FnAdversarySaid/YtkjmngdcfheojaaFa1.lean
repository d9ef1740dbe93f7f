/- Rows of facts: their element. -/
import Derived.Test.YtkjmngdcfheojaaKc
import Derived.Test.YtkjmngdcfheojaaWt1
import Derived.Test.YtkjmngdcfheojaaWa
namespace Go.Proofs.Ytkjmngdcfheojaa
open Go.RowKit
set_option linter.unusedVariables false

theorem Try.infoFact : (Try.prog.info? 32).map (fun i => (i.zero, i.size, i.bytes)) = some (some (.agg #[.int .i64 0, .int .i64 0]), 2, 16) := by kernel_rfl
theorem slFact : SlT Try.prog 24 32 (.agg #[.int .i64 0, .int .i64 0]) 2 16 := ⟨Try.underlying24, info_parts Try.infoFact, rfl, by decide, by decide⟩

theorem ownFacts {w : World} {base : Nat} {a : Option Addr} {n c : Nat} {rs : List (Int × Int)} (h : w.ownsRow base 32 2 (.slice a n c) n (flat encR rs)) : RecsAt w a rs := recs_of_own h

end Go.Proofs.Ytkjmngdcfheojaa

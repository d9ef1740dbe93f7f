/- Rows of integers: their element. -/
import Derived.Test.YtkckmjajjdpodaaWt0
namespace Go.Proofs.Ytkckmjajjdpodaa
open Go.RowKit
set_option linter.unusedVariables false

theorem Try.infoInt : (Try.prog.info? 3).map (fun i => (i.zero, i.size, i.bytes)) = some (some (.int .i64 0), 1, 8) := by kernel_rfl

theorem ownInts {w : World} {base : Nat} {a : Option Addr} {n c : Nat} {zs : List Int} (h : w.ownsRow base 3 1 (.slice a n c) n (zs.map (Value.int .i64))) : IntsAt w a zs := ints_of_own h

theorem slInt : SlT Try.prog 45 3 (.int .i64 0) 1 8 := ⟨Try.underlying45, info_parts Try.infoInt, rfl, by decide, by decide⟩

end Go.Proofs.Ytkckmjajjdpodaa

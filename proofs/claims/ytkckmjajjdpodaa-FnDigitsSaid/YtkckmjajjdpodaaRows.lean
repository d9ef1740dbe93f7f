/-
  No cell of these rows narrows 'for every input' (looked for: loops, veiled, ifaces, maps, wideKeys, modest, calm, conditions, laid).
  DERIVED. THE GIVEN ROWS OF THIS SEAT. 12 by the template 'for every input the law returns true; each argument reads behind the call as it read before'; 0 by the template 'total and deterministic' (their statements: YtkckmjajjdpodaaTotals.lean).
  GIVEN WITH THE SEED: the statements are not yours to turn. If you find one false, say at which input.
  Laid BY PROGRAM, IN A SANDBOX (cutbox-rows.mjs): the forced cells as the released guide's own fill.sh prints them over the translation 01f9aa80a66d4606… (all of the seat's roots in one cut). By AI agents, Wed Nov 11 2026. No macro, syntax, notation, axiom, sorry.
-/
import Derived.Test.YtkckmjajjdpodaaChecked
import GoSem.Claim
import GoSem.ClaimJoined
import GoSem.ClaimMapViews
import Derived.JoinedTies
import Derived.KernelRfl
namespace Go.Proofs.Ytkckmjajjdpodaa
/- THE CELL 'sum', in the pinned program and in every row, IS THE sha256 OF THE DUMP (.gsa) THAT YtkckmjajjdpodaaProg.lean LOADS. Nothing in Lean hashes anything: it is a label: what it is worth is what the hold of that sum in a sandbox is worth. -/
noncomputable def Try.pinned : Pinned := { name := "ytkckmjajjdpodaa", sum := "01f9aa80a66d4606e27789aed622fe1ac57992c8d0948262aa0cbcaa679c6f7a", checked := Try.checked }
namespace Rows
def none {H : Type} : Left H := { results := [], args := [] }

/-- 'laws.FnExternal': WHATEVER THE INPUT: true; the input reads as it did. -/
def fnExternalSpec : ChangeSpec := { name := "fnExternal", fn := fun _ => fun
  | [d] => { results := [.lit (.bool true)], args := [d] }
  | _ => none }
def fnExternalRow : OpenClaim := { program := "ytkckmjajjdpodaa", sum := "01f9aa80a66d4606e27789aed622fe1ac57992c8d0948262aa0cbcaa679c6f7a", func := "loop.example/g00907/laws.FnExternal", spec := "fnExternal", unfollowed := true, recurses := true, apart := false }
def FnExternalSaid : Prop := fnExternalRow.holds Try.pinned (OpenSpec.ofChange fnExternalSpec)

/-- ITS FALSE NEIGHBOUR: 'it returns false'. Refute it at one input. -/
def fnExternalWrong : ChangeSpec := { name := "fnExternal", fn := fun _ => fun
  | [d] => { results := [.lit (.bool false)], args := [d] }
  | _ => none }
def FnExternalWrongFalsely : Prop := fnExternalRow.holds Try.pinned (OpenSpec.ofChange fnExternalWrong)

/-- 'laws.FnExactCertifySort': WHATEVER THE INPUT: true; the input reads as it did. -/
def fnExactCertifySortSpec : ChangeSpec := { name := "fnExactCertifySort", fn := fun _ => fun
  | [d] => { results := [.lit (.bool true)], args := [d] }
  | _ => none }
def fnExactCertifySortRow : OpenClaim := { program := "ytkckmjajjdpodaa", sum := "01f9aa80a66d4606e27789aed622fe1ac57992c8d0948262aa0cbcaa679c6f7a", func := "loop.example/g00907/laws.FnExactCertifySort", spec := "fnExactCertifySort", unfollowed := true, recurses := true, apart := false }
def FnExactCertifySortSaid : Prop := fnExactCertifySortRow.holds Try.pinned (OpenSpec.ofChange fnExactCertifySortSpec)

/-- ITS FALSE NEIGHBOUR: 'it returns false'. Refute it at one input. -/
def fnExactCertifySortWrong : ChangeSpec := { name := "fnExactCertifySort", fn := fun _ => fun
  | [d] => { results := [.lit (.bool false)], args := [d] }
  | _ => none }
def FnExactCertifySortWrongFalsely : Prop := fnExactCertifySortRow.holds Try.pinned (OpenSpec.ofChange fnExactCertifySortWrong)

/-- 'laws.FnGroups': WHATEVER THE INPUT: true; the input reads as it did. -/
def fnGroupsSpec : ChangeSpec := { name := "fnGroups", fn := fun _ => fun
  | [d] => { results := [.lit (.bool true)], args := [d] }
  | _ => none }
def fnGroupsRow : OpenClaim := { program := "ytkckmjajjdpodaa", sum := "01f9aa80a66d4606e27789aed622fe1ac57992c8d0948262aa0cbcaa679c6f7a", func := "loop.example/g00907/laws.FnGroups", spec := "fnGroups", unfollowed := true, recurses := true, apart := false }
def FnGroupsSaid : Prop := fnGroupsRow.holds Try.pinned (OpenSpec.ofChange fnGroupsSpec)

/-- ITS FALSE NEIGHBOUR: 'it returns false'. Refute it at one input. -/
def fnGroupsWrong : ChangeSpec := { name := "fnGroups", fn := fun _ => fun
  | [d] => { results := [.lit (.bool false)], args := [d] }
  | _ => none }
def FnGroupsWrongFalsely : Prop := fnGroupsRow.holds Try.pinned (OpenSpec.ofChange fnGroupsWrong)

/-- 'laws.FnRadix': WHATEVER THE INPUT: true; the input reads as it did. -/
def fnRadixSpec : ChangeSpec := { name := "fnRadix", fn := fun _ => fun
  | [d] => { results := [.lit (.bool true)], args := [d] }
  | _ => none }
def fnRadixRow : OpenClaim := { program := "ytkckmjajjdpodaa", sum := "01f9aa80a66d4606e27789aed622fe1ac57992c8d0948262aa0cbcaa679c6f7a", func := "loop.example/g00907/laws.FnRadix", spec := "fnRadix", unfollowed := true, recurses := true, apart := false }
def FnRadixSaid : Prop := fnRadixRow.holds Try.pinned (OpenSpec.ofChange fnRadixSpec)

/-- ITS FALSE NEIGHBOUR: 'it returns false'. Refute it at one input. -/
def fnRadixWrong : ChangeSpec := { name := "fnRadix", fn := fun _ => fun
  | [d] => { results := [.lit (.bool false)], args := [d] }
  | _ => none }
def FnRadixWrongFalsely : Prop := fnRadixRow.holds Try.pinned (OpenSpec.ofChange fnRadixWrong)

/-- 'laws.FnDigits': WHATEVER THE INPUT: true; the input reads as it did. -/
def fnDigitsSpec : ChangeSpec := { name := "fnDigits", fn := fun _ => fun
  | [d] => { results := [.lit (.bool true)], args := [d] }
  | _ => none }
def fnDigitsRow : OpenClaim := { program := "ytkckmjajjdpodaa", sum := "01f9aa80a66d4606e27789aed622fe1ac57992c8d0948262aa0cbcaa679c6f7a", func := "loop.example/g00907/laws.FnDigits", spec := "fnDigits", unfollowed := true, recurses := true, apart := false }
def FnDigitsSaid : Prop := fnDigitsRow.holds Try.pinned (OpenSpec.ofChange fnDigitsSpec)

/-- ITS FALSE NEIGHBOUR: 'it returns false'. Refute it at one input. -/
def fnDigitsWrong : ChangeSpec := { name := "fnDigits", fn := fun _ => fun
  | [d] => { results := [.lit (.bool false)], args := [d] }
  | _ => none }
def FnDigitsWrongFalsely : Prop := fnDigitsRow.holds Try.pinned (OpenSpec.ofChange fnDigitsWrong)

/-- 'laws.FnExactPredictCost': WHATEVER THE INPUT: true; the input reads as it did. -/
def fnExactPredictCostSpec : ChangeSpec := { name := "fnExactPredictCost", fn := fun _ => fun
  | [d1, d2] => { results := [.lit (.bool true)], args := [d1, d2] }
  | _ => none }
def fnExactPredictCostRow : OpenClaim := { program := "ytkckmjajjdpodaa", sum := "01f9aa80a66d4606e27789aed622fe1ac57992c8d0948262aa0cbcaa679c6f7a", func := "loop.example/g00907/laws.FnExactPredictCost", spec := "fnExactPredictCost", unfollowed := true, recurses := true, apart := false }
def FnExactPredictCostSaid : Prop := fnExactPredictCostRow.holds Try.pinned (OpenSpec.ofChange fnExactPredictCostSpec)

/-- ITS FALSE NEIGHBOUR: 'it returns false'. Refute it at one input. -/
def fnExactPredictCostWrong : ChangeSpec := { name := "fnExactPredictCost", fn := fun _ => fun
  | [d1, d2] => { results := [.lit (.bool false)], args := [d1, d2] }
  | _ => none }
def FnExactPredictCostWrongFalsely : Prop := fnExactPredictCostRow.holds Try.pinned (OpenSpec.ofChange fnExactPredictCostWrong)

/-- 'laws.FnExactBestPlan': WHATEVER THE INPUT: true; the input reads as it did. -/
def fnExactBestPlanSpec : ChangeSpec := { name := "fnExactBestPlan", fn := fun _ => fun
  | [d1, d2] => { results := [.lit (.bool true)], args := [d1, d2] }
  | _ => none }
def fnExactBestPlanRow : OpenClaim := { program := "ytkckmjajjdpodaa", sum := "01f9aa80a66d4606e27789aed622fe1ac57992c8d0948262aa0cbcaa679c6f7a", func := "loop.example/g00907/laws.FnExactBestPlan", spec := "fnExactBestPlan", unfollowed := true, recurses := true, apart := false }
def FnExactBestPlanSaid : Prop := fnExactBestPlanRow.holds Try.pinned (OpenSpec.ofChange fnExactBestPlanSpec)

/-- ITS FALSE NEIGHBOUR: 'it returns false'. Refute it at one input. -/
def fnExactBestPlanWrong : ChangeSpec := { name := "fnExactBestPlan", fn := fun _ => fun
  | [d1, d2] => { results := [.lit (.bool false)], args := [d1, d2] }
  | _ => none }
def FnExactBestPlanWrongFalsely : Prop := fnExactBestPlanRow.holds Try.pinned (OpenSpec.ofChange fnExactBestPlanWrong)

/-- 'laws.FnAdaptive': WHATEVER THE INPUT: true; the input reads as it did. -/
def fnAdaptiveSpec : ChangeSpec := { name := "fnAdaptive", fn := fun _ => fun
  | [d] => { results := [.lit (.bool true)], args := [d] }
  | _ => none }
def fnAdaptiveRow : OpenClaim := { program := "ytkckmjajjdpodaa", sum := "01f9aa80a66d4606e27789aed622fe1ac57992c8d0948262aa0cbcaa679c6f7a", func := "loop.example/g00907/laws.FnAdaptive", spec := "fnAdaptive", unfollowed := true, recurses := true, apart := false }
def FnAdaptiveSaid : Prop := fnAdaptiveRow.holds Try.pinned (OpenSpec.ofChange fnAdaptiveSpec)

/-- ITS FALSE NEIGHBOUR: 'it returns false'. Refute it at one input. -/
def fnAdaptiveWrong : ChangeSpec := { name := "fnAdaptive", fn := fun _ => fun
  | [d] => { results := [.lit (.bool false)], args := [d] }
  | _ => none }
def FnAdaptiveWrongFalsely : Prop := fnAdaptiveRow.holds Try.pinned (OpenSpec.ofChange fnAdaptiveWrong)

/-- 'laws.FnKWay': WHATEVER THE INPUT: true; the input reads as it did. -/
def fnKWaySpec : ChangeSpec := { name := "fnKWay", fn := fun _ => fun
  | [d] => { results := [.lit (.bool true)], args := [d] }
  | _ => none }
def fnKWayRow : OpenClaim := { program := "ytkckmjajjdpodaa", sum := "01f9aa80a66d4606e27789aed622fe1ac57992c8d0948262aa0cbcaa679c6f7a", func := "loop.example/g00907/laws.FnKWay", spec := "fnKWay", unfollowed := true, recurses := true, apart := false }
def FnKWaySaid : Prop := fnKWayRow.holds Try.pinned (OpenSpec.ofChange fnKWaySpec)

/-- ITS FALSE NEIGHBOUR: 'it returns false'. Refute it at one input. -/
def fnKWayWrong : ChangeSpec := { name := "fnKWay", fn := fun _ => fun
  | [d] => { results := [.lit (.bool false)], args := [d] }
  | _ => none }
def FnKWayWrongFalsely : Prop := fnKWayRow.holds Try.pinned (OpenSpec.ofChange fnKWayWrong)

/-- 'laws.FnBestPlan': WHATEVER THE INPUT: true; the input reads as it did. -/
def fnBestPlanSpec : ChangeSpec := { name := "fnBestPlan", fn := fun _ => fun
  | [d] => { results := [.lit (.bool true)], args := [d] }
  | _ => none }
def fnBestPlanRow : OpenClaim := { program := "ytkckmjajjdpodaa", sum := "01f9aa80a66d4606e27789aed622fe1ac57992c8d0948262aa0cbcaa679c6f7a", func := "loop.example/g00907/laws.FnBestPlan", spec := "fnBestPlan", unfollowed := true, recurses := true, apart := false }
def FnBestPlanSaid : Prop := fnBestPlanRow.holds Try.pinned (OpenSpec.ofChange fnBestPlanSpec)

/-- ITS FALSE NEIGHBOUR: 'it returns false'. Refute it at one input. -/
def fnBestPlanWrong : ChangeSpec := { name := "fnBestPlan", fn := fun _ => fun
  | [d] => { results := [.lit (.bool false)], args := [d] }
  | _ => none }
def FnBestPlanWrongFalsely : Prop := fnBestPlanRow.holds Try.pinned (OpenSpec.ofChange fnBestPlanWrong)

/-- 'laws.FnExactExternalSort': WHATEVER THE INPUT: true; the input reads as it did. -/
def fnExactExternalSortSpec : ChangeSpec := { name := "fnExactExternalSort", fn := fun _ => fun
  | [d1, d2] => { results := [.lit (.bool true)], args := [d1, d2] }
  | _ => none }
def fnExactExternalSortRow : OpenClaim := { program := "ytkckmjajjdpodaa", sum := "01f9aa80a66d4606e27789aed622fe1ac57992c8d0948262aa0cbcaa679c6f7a", func := "loop.example/g00907/laws.FnExactExternalSort", spec := "fnExactExternalSort", unfollowed := true, recurses := true, apart := false }
def FnExactExternalSortSaid : Prop := fnExactExternalSortRow.holds Try.pinned (OpenSpec.ofChange fnExactExternalSortSpec)

/-- ITS FALSE NEIGHBOUR: 'it returns false'. Refute it at one input. -/
def fnExactExternalSortWrong : ChangeSpec := { name := "fnExactExternalSort", fn := fun _ => fun
  | [d1, d2] => { results := [.lit (.bool false)], args := [d1, d2] }
  | _ => none }
def FnExactExternalSortWrongFalsely : Prop := fnExactExternalSortRow.holds Try.pinned (OpenSpec.ofChange fnExactExternalSortWrong)

/-- 'laws.FnPasses': WHATEVER THE INPUT: true; the input reads as it did. -/
def fnPassesSpec : ChangeSpec := { name := "fnPasses", fn := fun _ => fun
  | [d] => { results := [.lit (.bool true)], args := [d] }
  | _ => none }
def fnPassesRow : OpenClaim := { program := "ytkckmjajjdpodaa", sum := "01f9aa80a66d4606e27789aed622fe1ac57992c8d0948262aa0cbcaa679c6f7a", func := "loop.example/g00907/laws.FnPasses", spec := "fnPasses", unfollowed := true, recurses := true, apart := false }
def FnPassesSaid : Prop := fnPassesRow.holds Try.pinned (OpenSpec.ofChange fnPassesSpec)

/-- ITS FALSE NEIGHBOUR: 'it returns false'. Refute it at one input. -/
def fnPassesWrong : ChangeSpec := { name := "fnPasses", fn := fun _ => fun
  | [d] => { results := [.lit (.bool false)], args := [d] }
  | _ => none }
def FnPassesWrongFalsely : Prop := fnPassesRow.holds Try.pinned (OpenSpec.ofChange fnPassesWrong)

/- THE SECOND FORM. 'bulk': how many values and letters a reading holds, each counted each time it is reached (what is shared counts as often as it is met; a slice's spare places count too). A statement '..UptoSaid' is the law's where the arguments, and the package variables that the reading takes, are together of bulk at most 1048576: NARROWER than '..Said'. Prove '..Said' where nothing that the law and all that it calls make is longer than what came in: it says more and counts as full. Else prove '..UptoSaid'. A law counts once. -/
mutual
def uptoBulk {H : Type} : DataW H → Nat
  | .lit (.string bytes) => bytes.length + 1
  | .lit _ => 1
  | .nil => 1
  | .ptr d => uptoBulk d + 1
  | .slice elems spare => uptoBulkAll elems + uptoBulkAll spare + 1
  | .agg parts => uptoBulkAll parts + 1
  | .iface _ d => uptoBulk d + 1
  | .map entries => uptoBulkEntries entries + 1
  | .held _ => 1
def uptoBulkAll {H : Type} : List (DataW H) → Nat
  | [] => 0
  | d :: r => uptoBulk d + uptoBulkAll r
def uptoBulkEntries {H : Type} : List (Lit × DataW H) → Nat
  | [] => 0
  | x :: r => uptoBulkEntry x + uptoBulkEntries r
def uptoBulkEntry {H : Type} : Lit × DataW H → Nat
  | (.string bytes, d) => bytes.length + uptoBulk d + 1
  | (_, d) => uptoBulk d + 1
 end
def uptoSmall : (H : Type) → List (DataW H) → Bool := fun _ ds => decide (uptoBulkAll ds ≤ 1048576)
def OpenSpec.upto (s : _root_.Go.ChangeSpec) : _root_.Go.OpenSpec := { _root_.Go.OpenSpec.ofChange s with cond := some uptoSmall }

/-- 'laws.FnExternal', WHERE WHAT IT READS IS OF BULK AT MOST 1048576: true; the input reads as it did. -/
def fnExternalUptoRow : OpenClaim := { program := "ytkckmjajjdpodaa", sum := "01f9aa80a66d4606e27789aed622fe1ac57992c8d0948262aa0cbcaa679c6f7a", func := "loop.example/g00907/laws.FnExternal", spec := "fnExternal", unfollowed := true, recurses := true, apart := false, narrowed := true }
def FnExternalUptoSaid : Prop := fnExternalUptoRow.holds Try.pinned (OpenSpec.upto fnExternalSpec)

/-- 'laws.FnExactCertifySort', WHERE WHAT IT READS IS OF BULK AT MOST 1048576: true; the input reads as it did. -/
def fnExactCertifySortUptoRow : OpenClaim := { program := "ytkckmjajjdpodaa", sum := "01f9aa80a66d4606e27789aed622fe1ac57992c8d0948262aa0cbcaa679c6f7a", func := "loop.example/g00907/laws.FnExactCertifySort", spec := "fnExactCertifySort", unfollowed := true, recurses := true, apart := false, narrowed := true }
def FnExactCertifySortUptoSaid : Prop := fnExactCertifySortUptoRow.holds Try.pinned (OpenSpec.upto fnExactCertifySortSpec)

/-- 'laws.FnGroups', WHERE WHAT IT READS IS OF BULK AT MOST 1048576: true; the input reads as it did. -/
def fnGroupsUptoRow : OpenClaim := { program := "ytkckmjajjdpodaa", sum := "01f9aa80a66d4606e27789aed622fe1ac57992c8d0948262aa0cbcaa679c6f7a", func := "loop.example/g00907/laws.FnGroups", spec := "fnGroups", unfollowed := true, recurses := true, apart := false, narrowed := true }
def FnGroupsUptoSaid : Prop := fnGroupsUptoRow.holds Try.pinned (OpenSpec.upto fnGroupsSpec)

/-- 'laws.FnRadix', WHERE WHAT IT READS IS OF BULK AT MOST 1048576: true; the input reads as it did. -/
def fnRadixUptoRow : OpenClaim := { program := "ytkckmjajjdpodaa", sum := "01f9aa80a66d4606e27789aed622fe1ac57992c8d0948262aa0cbcaa679c6f7a", func := "loop.example/g00907/laws.FnRadix", spec := "fnRadix", unfollowed := true, recurses := true, apart := false, narrowed := true }
def FnRadixUptoSaid : Prop := fnRadixUptoRow.holds Try.pinned (OpenSpec.upto fnRadixSpec)

/-- 'laws.FnDigits', WHERE WHAT IT READS IS OF BULK AT MOST 1048576: true; the input reads as it did. -/
def fnDigitsUptoRow : OpenClaim := { program := "ytkckmjajjdpodaa", sum := "01f9aa80a66d4606e27789aed622fe1ac57992c8d0948262aa0cbcaa679c6f7a", func := "loop.example/g00907/laws.FnDigits", spec := "fnDigits", unfollowed := true, recurses := true, apart := false, narrowed := true }
def FnDigitsUptoSaid : Prop := fnDigitsUptoRow.holds Try.pinned (OpenSpec.upto fnDigitsSpec)

/-- 'laws.FnExactPredictCost', WHERE WHAT IT READS IS OF BULK AT MOST 1048576: true; the input reads as it did. -/
def fnExactPredictCostUptoRow : OpenClaim := { program := "ytkckmjajjdpodaa", sum := "01f9aa80a66d4606e27789aed622fe1ac57992c8d0948262aa0cbcaa679c6f7a", func := "loop.example/g00907/laws.FnExactPredictCost", spec := "fnExactPredictCost", unfollowed := true, recurses := true, apart := false, narrowed := true }
def FnExactPredictCostUptoSaid : Prop := fnExactPredictCostUptoRow.holds Try.pinned (OpenSpec.upto fnExactPredictCostSpec)

/-- 'laws.FnExactBestPlan', WHERE WHAT IT READS IS OF BULK AT MOST 1048576: true; the input reads as it did. -/
def fnExactBestPlanUptoRow : OpenClaim := { program := "ytkckmjajjdpodaa", sum := "01f9aa80a66d4606e27789aed622fe1ac57992c8d0948262aa0cbcaa679c6f7a", func := "loop.example/g00907/laws.FnExactBestPlan", spec := "fnExactBestPlan", unfollowed := true, recurses := true, apart := false, narrowed := true }
def FnExactBestPlanUptoSaid : Prop := fnExactBestPlanUptoRow.holds Try.pinned (OpenSpec.upto fnExactBestPlanSpec)

/-- 'laws.FnAdaptive', WHERE WHAT IT READS IS OF BULK AT MOST 1048576: true; the input reads as it did. -/
def fnAdaptiveUptoRow : OpenClaim := { program := "ytkckmjajjdpodaa", sum := "01f9aa80a66d4606e27789aed622fe1ac57992c8d0948262aa0cbcaa679c6f7a", func := "loop.example/g00907/laws.FnAdaptive", spec := "fnAdaptive", unfollowed := true, recurses := true, apart := false, narrowed := true }
def FnAdaptiveUptoSaid : Prop := fnAdaptiveUptoRow.holds Try.pinned (OpenSpec.upto fnAdaptiveSpec)

/-- 'laws.FnKWay', WHERE WHAT IT READS IS OF BULK AT MOST 1048576: true; the input reads as it did. -/
def fnKWayUptoRow : OpenClaim := { program := "ytkckmjajjdpodaa", sum := "01f9aa80a66d4606e27789aed622fe1ac57992c8d0948262aa0cbcaa679c6f7a", func := "loop.example/g00907/laws.FnKWay", spec := "fnKWay", unfollowed := true, recurses := true, apart := false, narrowed := true }
def FnKWayUptoSaid : Prop := fnKWayUptoRow.holds Try.pinned (OpenSpec.upto fnKWaySpec)

/-- 'laws.FnBestPlan', WHERE WHAT IT READS IS OF BULK AT MOST 1048576: true; the input reads as it did. -/
def fnBestPlanUptoRow : OpenClaim := { program := "ytkckmjajjdpodaa", sum := "01f9aa80a66d4606e27789aed622fe1ac57992c8d0948262aa0cbcaa679c6f7a", func := "loop.example/g00907/laws.FnBestPlan", spec := "fnBestPlan", unfollowed := true, recurses := true, apart := false, narrowed := true }
def FnBestPlanUptoSaid : Prop := fnBestPlanUptoRow.holds Try.pinned (OpenSpec.upto fnBestPlanSpec)

/-- 'laws.FnExactExternalSort', WHERE WHAT IT READS IS OF BULK AT MOST 1048576: true; the input reads as it did. -/
def fnExactExternalSortUptoRow : OpenClaim := { program := "ytkckmjajjdpodaa", sum := "01f9aa80a66d4606e27789aed622fe1ac57992c8d0948262aa0cbcaa679c6f7a", func := "loop.example/g00907/laws.FnExactExternalSort", spec := "fnExactExternalSort", unfollowed := true, recurses := true, apart := false, narrowed := true }
def FnExactExternalSortUptoSaid : Prop := fnExactExternalSortUptoRow.holds Try.pinned (OpenSpec.upto fnExactExternalSortSpec)

/-- 'laws.FnPasses', WHERE WHAT IT READS IS OF BULK AT MOST 1048576: true; the input reads as it did. -/
def fnPassesUptoRow : OpenClaim := { program := "ytkckmjajjdpodaa", sum := "01f9aa80a66d4606e27789aed622fe1ac57992c8d0948262aa0cbcaa679c6f7a", func := "loop.example/g00907/laws.FnPasses", spec := "fnPasses", unfollowed := true, recurses := true, apart := false, narrowed := true }
def FnPassesUptoSaid : Prop := fnPassesUptoRow.holds Try.pinned (OpenSpec.upto fnPassesSpec)

end Rows
end Go.Proofs.Ytkckmjajjdpodaa

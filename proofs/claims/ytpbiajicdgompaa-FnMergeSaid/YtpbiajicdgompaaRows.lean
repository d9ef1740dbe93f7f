/-
  No cell of these rows narrows 'for every input' (looked for: loops, veiled, ifaces, maps, wideKeys, modest, calm, conditions, laid).
  DERIVED. THE GIVEN ROWS OF THIS SEAT. 12 by the template 'for every input the law returns true; each argument reads behind the call as it read before'; 0 by the template 'total and deterministic' (their statements: YtpbiajicdgompaaTotals.lean).
  GIVEN WITH THE SEED: the statements are not yours to turn. If you find one false, say at which input.
  Laid BY PROGRAM, IN A SANDBOX (cutbox-rows.mjs): the forced cells as the released guide's own fill.sh prints them over the translation 78673c5c695da286… (all of the seat's roots in one cut). By AI agents, Wed Nov 11 2026. No macro, syntax, notation, axiom, sorry.
-/
import Derived.Test.YtpbiajicdgompaaChecked
import GoSem.Claim
import GoSem.ClaimJoined
import GoSem.ClaimMapViews
import Derived.JoinedTies
import Derived.KernelRfl
namespace Go.Proofs.Ytpbiajicdgompaa
/- THE CELL 'sum', in the pinned program and in every row, IS THE sha256 OF THE DUMP (.gsa) THAT YtpbiajicdgompaaProg.lean LOADS. Nothing in Lean hashes anything: it is a label: what it is worth is what the hold of that sum in a sandbox is worth. -/
noncomputable def Try.pinned : Pinned := { name := "ytpbiajicdgompaa", sum := "78673c5c695da286cef3afd2a2b7674ef9569889783b5589a5f0f2f857ce291d", checked := Try.checked }
namespace Rows
def none {H : Type} : Left H := { results := [], args := [] }

/-- 'laws.FnStable': WHATEVER THE INPUT: true; the input reads as it did. -/
def fnStableSpec : ChangeSpec := { name := "fnStable", fn := fun _ => fun
  | [d] => { results := [.lit (.bool true)], args := [d] }
  | _ => none }
def fnStableRow : OpenClaim := { program := "ytpbiajicdgompaa", sum := "78673c5c695da286cef3afd2a2b7674ef9569889783b5589a5f0f2f857ce291d", func := "loop.example/g00907/laws.FnStable", spec := "fnStable", unfollowed := true, recurses := true, apart := false }
def FnStableSaid : Prop := fnStableRow.holds Try.pinned (OpenSpec.ofChange fnStableSpec)

/-- ITS FALSE NEIGHBOUR: 'it returns false'. Refute it at one input. -/
def fnStableWrong : ChangeSpec := { name := "fnStable", fn := fun _ => fun
  | [d] => { results := [.lit (.bool false)], args := [d] }
  | _ => none }
def FnStableWrongFalsely : Prop := fnStableRow.holds Try.pinned (OpenSpec.ofChange fnStableWrong)

/-- 'laws.FnExactCertifySort': WHATEVER THE INPUT: true; the input reads as it did. -/
def fnExactCertifySortSpec : ChangeSpec := { name := "fnExactCertifySort", fn := fun _ => fun
  | [d] => { results := [.lit (.bool true)], args := [d] }
  | _ => none }
def fnExactCertifySortRow : OpenClaim := { program := "ytpbiajicdgompaa", sum := "78673c5c695da286cef3afd2a2b7674ef9569889783b5589a5f0f2f857ce291d", func := "loop.example/g00907/laws.FnExactCertifySort", spec := "fnExactCertifySort", unfollowed := true, recurses := true, apart := false }
def FnExactCertifySortSaid : Prop := fnExactCertifySortRow.holds Try.pinned (OpenSpec.ofChange fnExactCertifySortSpec)

/-- ITS FALSE NEIGHBOUR: 'it returns false'. Refute it at one input. -/
def fnExactCertifySortWrong : ChangeSpec := { name := "fnExactCertifySort", fn := fun _ => fun
  | [d] => { results := [.lit (.bool false)], args := [d] }
  | _ => none }
def FnExactCertifySortWrongFalsely : Prop := fnExactCertifySortRow.holds Try.pinned (OpenSpec.ofChange fnExactCertifySortWrong)

/-- 'laws.FnMergeSort': WHATEVER THE INPUT: true; the input reads as it did. -/
def fnMergeSortSpec : ChangeSpec := { name := "fnMergeSort", fn := fun _ => fun
  | [d] => { results := [.lit (.bool true)], args := [d] }
  | _ => none }
def fnMergeSortRow : OpenClaim := { program := "ytpbiajicdgompaa", sum := "78673c5c695da286cef3afd2a2b7674ef9569889783b5589a5f0f2f857ce291d", func := "loop.example/g00907/laws.FnMergeSort", spec := "fnMergeSort", unfollowed := true, recurses := true, apart := false }
def FnMergeSortSaid : Prop := fnMergeSortRow.holds Try.pinned (OpenSpec.ofChange fnMergeSortSpec)

/-- ITS FALSE NEIGHBOUR: 'it returns false'. Refute it at one input. -/
def fnMergeSortWrong : ChangeSpec := { name := "fnMergeSort", fn := fun _ => fun
  | [d] => { results := [.lit (.bool false)], args := [d] }
  | _ => none }
def FnMergeSortWrongFalsely : Prop := fnMergeSortRow.holds Try.pinned (OpenSpec.ofChange fnMergeSortWrong)

/-- 'laws.FnMerge': WHATEVER THE INPUT: true; the input reads as it did. -/
def fnMergeSpec : ChangeSpec := { name := "fnMerge", fn := fun _ => fun
  | [d] => { results := [.lit (.bool true)], args := [d] }
  | _ => none }
def fnMergeRow : OpenClaim := { program := "ytpbiajicdgompaa", sum := "78673c5c695da286cef3afd2a2b7674ef9569889783b5589a5f0f2f857ce291d", func := "loop.example/g00907/laws.FnMerge", spec := "fnMerge", unfollowed := true, recurses := true, apart := false }
def FnMergeSaid : Prop := fnMergeRow.holds Try.pinned (OpenSpec.ofChange fnMergeSpec)

/-- ITS FALSE NEIGHBOUR: 'it returns false'. Refute it at one input. -/
def fnMergeWrong : ChangeSpec := { name := "fnMerge", fn := fun _ => fun
  | [d] => { results := [.lit (.bool false)], args := [d] }
  | _ => none }
def FnMergeWrongFalsely : Prop := fnMergeRow.holds Try.pinned (OpenSpec.ofChange fnMergeWrong)

/-- 'laws.FnGroups': WHATEVER THE INPUT: true; the input reads as it did. -/
def fnGroupsSpec : ChangeSpec := { name := "fnGroups", fn := fun _ => fun
  | [d] => { results := [.lit (.bool true)], args := [d] }
  | _ => none }
def fnGroupsRow : OpenClaim := { program := "ytpbiajicdgompaa", sum := "78673c5c695da286cef3afd2a2b7674ef9569889783b5589a5f0f2f857ce291d", func := "loop.example/g00907/laws.FnGroups", spec := "fnGroups", unfollowed := true, recurses := true, apart := false }
def FnGroupsSaid : Prop := fnGroupsRow.holds Try.pinned (OpenSpec.ofChange fnGroupsSpec)

/-- ITS FALSE NEIGHBOUR: 'it returns false'. Refute it at one input. -/
def fnGroupsWrong : ChangeSpec := { name := "fnGroups", fn := fun _ => fun
  | [d] => { results := [.lit (.bool false)], args := [d] }
  | _ => none }
def FnGroupsWrongFalsely : Prop := fnGroupsRow.holds Try.pinned (OpenSpec.ofChange fnGroupsWrong)

/-- 'laws.FnRadix': WHATEVER THE INPUT: true; the input reads as it did. -/
def fnRadixSpec : ChangeSpec := { name := "fnRadix", fn := fun _ => fun
  | [d] => { results := [.lit (.bool true)], args := [d] }
  | _ => none }
def fnRadixRow : OpenClaim := { program := "ytpbiajicdgompaa", sum := "78673c5c695da286cef3afd2a2b7674ef9569889783b5589a5f0f2f857ce291d", func := "loop.example/g00907/laws.FnRadix", spec := "fnRadix", unfollowed := true, recurses := true, apart := false }
def FnRadixSaid : Prop := fnRadixRow.holds Try.pinned (OpenSpec.ofChange fnRadixSpec)

/-- ITS FALSE NEIGHBOUR: 'it returns false'. Refute it at one input. -/
def fnRadixWrong : ChangeSpec := { name := "fnRadix", fn := fun _ => fun
  | [d] => { results := [.lit (.bool false)], args := [d] }
  | _ => none }
def FnRadixWrongFalsely : Prop := fnRadixRow.holds Try.pinned (OpenSpec.ofChange fnRadixWrong)

/-- 'laws.FnDigits': WHATEVER THE INPUT: true; the input reads as it did. -/
def fnDigitsSpec : ChangeSpec := { name := "fnDigits", fn := fun _ => fun
  | [d] => { results := [.lit (.bool true)], args := [d] }
  | _ => none }
def fnDigitsRow : OpenClaim := { program := "ytpbiajicdgompaa", sum := "78673c5c695da286cef3afd2a2b7674ef9569889783b5589a5f0f2f857ce291d", func := "loop.example/g00907/laws.FnDigits", spec := "fnDigits", unfollowed := true, recurses := true, apart := false }
def FnDigitsSaid : Prop := fnDigitsRow.holds Try.pinned (OpenSpec.ofChange fnDigitsSpec)

/-- ITS FALSE NEIGHBOUR: 'it returns false'. Refute it at one input. -/
def fnDigitsWrong : ChangeSpec := { name := "fnDigits", fn := fun _ => fun
  | [d] => { results := [.lit (.bool false)], args := [d] }
  | _ => none }
def FnDigitsWrongFalsely : Prop := fnDigitsRow.holds Try.pinned (OpenSpec.ofChange fnDigitsWrong)

/-- 'laws.FnExactPredictCost': WHATEVER THE INPUT: true; the input reads as it did. -/
def fnExactPredictCostSpec : ChangeSpec := { name := "fnExactPredictCost", fn := fun _ => fun
  | [d1, d2] => { results := [.lit (.bool true)], args := [d1, d2] }
  | _ => none }
def fnExactPredictCostRow : OpenClaim := { program := "ytpbiajicdgompaa", sum := "78673c5c695da286cef3afd2a2b7674ef9569889783b5589a5f0f2f857ce291d", func := "loop.example/g00907/laws.FnExactPredictCost", spec := "fnExactPredictCost", unfollowed := true, recurses := true, apart := false }
def FnExactPredictCostSaid : Prop := fnExactPredictCostRow.holds Try.pinned (OpenSpec.ofChange fnExactPredictCostSpec)

/-- ITS FALSE NEIGHBOUR: 'it returns false'. Refute it at one input. -/
def fnExactPredictCostWrong : ChangeSpec := { name := "fnExactPredictCost", fn := fun _ => fun
  | [d1, d2] => { results := [.lit (.bool false)], args := [d1, d2] }
  | _ => none }
def FnExactPredictCostWrongFalsely : Prop := fnExactPredictCostRow.holds Try.pinned (OpenSpec.ofChange fnExactPredictCostWrong)

/-- 'laws.FnTopStream': WHATEVER THE INPUT: true; the input reads as it did. -/
def fnTopStreamSpec : ChangeSpec := { name := "fnTopStream", fn := fun _ => fun
  | [d] => { results := [.lit (.bool true)], args := [d] }
  | _ => none }
def fnTopStreamRow : OpenClaim := { program := "ytpbiajicdgompaa", sum := "78673c5c695da286cef3afd2a2b7674ef9569889783b5589a5f0f2f857ce291d", func := "loop.example/g00907/laws.FnTopStream", spec := "fnTopStream", inPlace := ["slices.overlaps[loop.example/g00907/impl.Record]"], unfollowed := true, recurses := true, apart := false }
def FnTopStreamSaid : Prop := fnTopStreamRow.holds Try.pinned (OpenSpec.ofChange fnTopStreamSpec)

/-- ITS FALSE NEIGHBOUR: 'it returns false'. Refute it at one input. -/
def fnTopStreamWrong : ChangeSpec := { name := "fnTopStream", fn := fun _ => fun
  | [d] => { results := [.lit (.bool false)], args := [d] }
  | _ => none }
def FnTopStreamWrongFalsely : Prop := fnTopStreamRow.holds Try.pinned (OpenSpec.ofChange fnTopStreamWrong)

/-- 'laws.FnExactBestPlan': WHATEVER THE INPUT: true; the input reads as it did. -/
def fnExactBestPlanSpec : ChangeSpec := { name := "fnExactBestPlan", fn := fun _ => fun
  | [d1, d2] => { results := [.lit (.bool true)], args := [d1, d2] }
  | _ => none }
def fnExactBestPlanRow : OpenClaim := { program := "ytpbiajicdgompaa", sum := "78673c5c695da286cef3afd2a2b7674ef9569889783b5589a5f0f2f857ce291d", func := "loop.example/g00907/laws.FnExactBestPlan", spec := "fnExactBestPlan", unfollowed := true, recurses := true, apart := false }
def FnExactBestPlanSaid : Prop := fnExactBestPlanRow.holds Try.pinned (OpenSpec.ofChange fnExactBestPlanSpec)

/-- ITS FALSE NEIGHBOUR: 'it returns false'. Refute it at one input. -/
def fnExactBestPlanWrong : ChangeSpec := { name := "fnExactBestPlan", fn := fun _ => fun
  | [d1, d2] => { results := [.lit (.bool false)], args := [d1, d2] }
  | _ => none }
def FnExactBestPlanWrongFalsely : Prop := fnExactBestPlanRow.holds Try.pinned (OpenSpec.ofChange fnExactBestPlanWrong)

/-- 'laws.FnAdaptive': WHATEVER THE INPUT: true; the input reads as it did. -/
def fnAdaptiveSpec : ChangeSpec := { name := "fnAdaptive", fn := fun _ => fun
  | [d] => { results := [.lit (.bool true)], args := [d] }
  | _ => none }
def fnAdaptiveRow : OpenClaim := { program := "ytpbiajicdgompaa", sum := "78673c5c695da286cef3afd2a2b7674ef9569889783b5589a5f0f2f857ce291d", func := "loop.example/g00907/laws.FnAdaptive", spec := "fnAdaptive", unfollowed := true, recurses := true, apart := false }
def FnAdaptiveSaid : Prop := fnAdaptiveRow.holds Try.pinned (OpenSpec.ofChange fnAdaptiveSpec)

/-- ITS FALSE NEIGHBOUR: 'it returns false'. Refute it at one input. -/
def fnAdaptiveWrong : ChangeSpec := { name := "fnAdaptive", fn := fun _ => fun
  | [d] => { results := [.lit (.bool false)], args := [d] }
  | _ => none }
def FnAdaptiveWrongFalsely : Prop := fnAdaptiveRow.holds Try.pinned (OpenSpec.ofChange fnAdaptiveWrong)

/-- 'laws.FnKWay': WHATEVER THE INPUT: true; the input reads as it did. -/
def fnKWaySpec : ChangeSpec := { name := "fnKWay", fn := fun _ => fun
  | [d] => { results := [.lit (.bool true)], args := [d] }
  | _ => none }
def fnKWayRow : OpenClaim := { program := "ytpbiajicdgompaa", sum := "78673c5c695da286cef3afd2a2b7674ef9569889783b5589a5f0f2f857ce291d", func := "loop.example/g00907/laws.FnKWay", spec := "fnKWay", unfollowed := true, recurses := true, apart := false }
def FnKWaySaid : Prop := fnKWayRow.holds Try.pinned (OpenSpec.ofChange fnKWaySpec)

/-- ITS FALSE NEIGHBOUR: 'it returns false'. Refute it at one input. -/
def fnKWayWrong : ChangeSpec := { name := "fnKWay", fn := fun _ => fun
  | [d] => { results := [.lit (.bool false)], args := [d] }
  | _ => none }
def FnKWayWrongFalsely : Prop := fnKWayRow.holds Try.pinned (OpenSpec.ofChange fnKWayWrong)

/- THE SECOND FORM. 'bulk': how many values and letters a reading holds, each counted each time it is reached (what is shared counts as often as it is met; a slice's spare places count too). A statement '..UptoSaid' is the law's where the arguments, and the package variables that the reading takes, are together of bulk at most 1048576: NARROWER than '..Said'. Prove '..Said' where nothing that the law and all that it calls make is longer than what came in: it says more and counts as full. Else prove '..UptoSaid'. A law counts once. -/
mutual
def uptoBulk {H : Type} : DataW H → Nat
  | .lit (.string bytes) => bytes.length + 1
  | .lit _ => 1
  | .nil => 1
  | .ptr d => uptoBulk d + 1
  | .slice elems spare => uptoBulkAll elems + uptoBulkAll spare + 1
  | .agg parts => uptoBulkAll parts + 1
  | .iface _ d => uptoBulk d + 1
  | .map entries => uptoBulkEntries entries + 1
  | .held _ => 1
def uptoBulkAll {H : Type} : List (DataW H) → Nat
  | [] => 0
  | d :: r => uptoBulk d + uptoBulkAll r
def uptoBulkEntries {H : Type} : List (Lit × DataW H) → Nat
  | [] => 0
  | x :: r => uptoBulkEntry x + uptoBulkEntries r
def uptoBulkEntry {H : Type} : Lit × DataW H → Nat
  | (.string bytes, d) => bytes.length + uptoBulk d + 1
  | (_, d) => uptoBulk d + 1
 end
def uptoSmall : (H : Type) → List (DataW H) → Bool := fun _ ds => decide (uptoBulkAll ds ≤ 1048576)
def OpenSpec.upto (s : _root_.Go.ChangeSpec) : _root_.Go.OpenSpec := { _root_.Go.OpenSpec.ofChange s with cond := some uptoSmall }

/-- 'laws.FnStable', WHERE WHAT IT READS IS OF BULK AT MOST 1048576: true; the input reads as it did. -/
def fnStableUptoRow : OpenClaim := { program := "ytpbiajicdgompaa", sum := "78673c5c695da286cef3afd2a2b7674ef9569889783b5589a5f0f2f857ce291d", func := "loop.example/g00907/laws.FnStable", spec := "fnStable", unfollowed := true, recurses := true, apart := false, narrowed := true }
def FnStableUptoSaid : Prop := fnStableUptoRow.holds Try.pinned (OpenSpec.upto fnStableSpec)

/-- 'laws.FnExactCertifySort', WHERE WHAT IT READS IS OF BULK AT MOST 1048576: true; the input reads as it did. -/
def fnExactCertifySortUptoRow : OpenClaim := { program := "ytpbiajicdgompaa", sum := "78673c5c695da286cef3afd2a2b7674ef9569889783b5589a5f0f2f857ce291d", func := "loop.example/g00907/laws.FnExactCertifySort", spec := "fnExactCertifySort", unfollowed := true, recurses := true, apart := false, narrowed := true }
def FnExactCertifySortUptoSaid : Prop := fnExactCertifySortUptoRow.holds Try.pinned (OpenSpec.upto fnExactCertifySortSpec)

/-- 'laws.FnMergeSort', WHERE WHAT IT READS IS OF BULK AT MOST 1048576: true; the input reads as it did. -/
def fnMergeSortUptoRow : OpenClaim := { program := "ytpbiajicdgompaa", sum := "78673c5c695da286cef3afd2a2b7674ef9569889783b5589a5f0f2f857ce291d", func := "loop.example/g00907/laws.FnMergeSort", spec := "fnMergeSort", unfollowed := true, recurses := true, apart := false, narrowed := true }
def FnMergeSortUptoSaid : Prop := fnMergeSortUptoRow.holds Try.pinned (OpenSpec.upto fnMergeSortSpec)

/-- 'laws.FnMerge', WHERE WHAT IT READS IS OF BULK AT MOST 1048576: true; the input reads as it did. -/
def fnMergeUptoRow : OpenClaim := { program := "ytpbiajicdgompaa", sum := "78673c5c695da286cef3afd2a2b7674ef9569889783b5589a5f0f2f857ce291d", func := "loop.example/g00907/laws.FnMerge", spec := "fnMerge", unfollowed := true, recurses := true, apart := false, narrowed := true }
def FnMergeUptoSaid : Prop := fnMergeUptoRow.holds Try.pinned (OpenSpec.upto fnMergeSpec)

/-- 'laws.FnGroups', WHERE WHAT IT READS IS OF BULK AT MOST 1048576: true; the input reads as it did. -/
def fnGroupsUptoRow : OpenClaim := { program := "ytpbiajicdgompaa", sum := "78673c5c695da286cef3afd2a2b7674ef9569889783b5589a5f0f2f857ce291d", func := "loop.example/g00907/laws.FnGroups", spec := "fnGroups", unfollowed := true, recurses := true, apart := false, narrowed := true }
def FnGroupsUptoSaid : Prop := fnGroupsUptoRow.holds Try.pinned (OpenSpec.upto fnGroupsSpec)

/-- 'laws.FnRadix', WHERE WHAT IT READS IS OF BULK AT MOST 1048576: true; the input reads as it did. -/
def fnRadixUptoRow : OpenClaim := { program := "ytpbiajicdgompaa", sum := "78673c5c695da286cef3afd2a2b7674ef9569889783b5589a5f0f2f857ce291d", func := "loop.example/g00907/laws.FnRadix", spec := "fnRadix", unfollowed := true, recurses := true, apart := false, narrowed := true }
def FnRadixUptoSaid : Prop := fnRadixUptoRow.holds Try.pinned (OpenSpec.upto fnRadixSpec)

/-- 'laws.FnDigits', WHERE WHAT IT READS IS OF BULK AT MOST 1048576: true; the input reads as it did. -/
def fnDigitsUptoRow : OpenClaim := { program := "ytpbiajicdgompaa", sum := "78673c5c695da286cef3afd2a2b7674ef9569889783b5589a5f0f2f857ce291d", func := "loop.example/g00907/laws.FnDigits", spec := "fnDigits", unfollowed := true, recurses := true, apart := false, narrowed := true }
def FnDigitsUptoSaid : Prop := fnDigitsUptoRow.holds Try.pinned (OpenSpec.upto fnDigitsSpec)

/-- 'laws.FnExactPredictCost', WHERE WHAT IT READS IS OF BULK AT MOST 1048576: true; the input reads as it did. -/
def fnExactPredictCostUptoRow : OpenClaim := { program := "ytpbiajicdgompaa", sum := "78673c5c695da286cef3afd2a2b7674ef9569889783b5589a5f0f2f857ce291d", func := "loop.example/g00907/laws.FnExactPredictCost", spec := "fnExactPredictCost", unfollowed := true, recurses := true, apart := false, narrowed := true }
def FnExactPredictCostUptoSaid : Prop := fnExactPredictCostUptoRow.holds Try.pinned (OpenSpec.upto fnExactPredictCostSpec)

/-- 'laws.FnTopStream', WHERE WHAT IT READS IS OF BULK AT MOST 1048576: true; the input reads as it did. -/
def fnTopStreamUptoRow : OpenClaim := { program := "ytpbiajicdgompaa", sum := "78673c5c695da286cef3afd2a2b7674ef9569889783b5589a5f0f2f857ce291d", func := "loop.example/g00907/laws.FnTopStream", spec := "fnTopStream", inPlace := ["slices.overlaps[loop.example/g00907/impl.Record]"], unfollowed := true, recurses := true, apart := false, narrowed := true }
def FnTopStreamUptoSaid : Prop := fnTopStreamUptoRow.holds Try.pinned (OpenSpec.upto fnTopStreamSpec)

/-- 'laws.FnExactBestPlan', WHERE WHAT IT READS IS OF BULK AT MOST 1048576: true; the input reads as it did. -/
def fnExactBestPlanUptoRow : OpenClaim := { program := "ytpbiajicdgompaa", sum := "78673c5c695da286cef3afd2a2b7674ef9569889783b5589a5f0f2f857ce291d", func := "loop.example/g00907/laws.FnExactBestPlan", spec := "fnExactBestPlan", unfollowed := true, recurses := true, apart := false, narrowed := true }
def FnExactBestPlanUptoSaid : Prop := fnExactBestPlanUptoRow.holds Try.pinned (OpenSpec.upto fnExactBestPlanSpec)

/-- 'laws.FnAdaptive', WHERE WHAT IT READS IS OF BULK AT MOST 1048576: true; the input reads as it did. -/
def fnAdaptiveUptoRow : OpenClaim := { program := "ytpbiajicdgompaa", sum := "78673c5c695da286cef3afd2a2b7674ef9569889783b5589a5f0f2f857ce291d", func := "loop.example/g00907/laws.FnAdaptive", spec := "fnAdaptive", unfollowed := true, recurses := true, apart := false, narrowed := true }
def FnAdaptiveUptoSaid : Prop := fnAdaptiveUptoRow.holds Try.pinned (OpenSpec.upto fnAdaptiveSpec)

/-- 'laws.FnKWay', WHERE WHAT IT READS IS OF BULK AT MOST 1048576: true; the input reads as it did. -/
def fnKWayUptoRow : OpenClaim := { program := "ytpbiajicdgompaa", sum := "78673c5c695da286cef3afd2a2b7674ef9569889783b5589a5f0f2f857ce291d", func := "loop.example/g00907/laws.FnKWay", spec := "fnKWay", unfollowed := true, recurses := true, apart := false, narrowed := true }
def FnKWayUptoSaid : Prop := fnKWayUptoRow.holds Try.pinned (OpenSpec.upto fnKWaySpec)

end Rows
end Go.Proofs.Ytpbiajicdgompaa

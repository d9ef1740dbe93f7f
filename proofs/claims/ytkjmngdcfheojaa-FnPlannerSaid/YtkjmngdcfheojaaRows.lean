/-
  No cell of these rows narrows 'for every input' (looked for: loops, veiled, ifaces, maps, wideKeys, modest, calm, conditions, laid).
  DERIVED. THE GIVEN ROWS OF THIS SEAT. 8 by the template 'for every input the law returns true; each argument reads behind the call as it read before'; 0 by the template 'total and deterministic' (their statements: YtkjmngdcfheojaaTotals.lean).
  GIVEN WITH THE SEED: the statements are not yours to turn. If you find one false, say at which input.
  Laid BY PROGRAM, IN A SANDBOX (cutbox-rows.mjs): the forced cells as the released guide's own fill.sh prints them over the translation abde37658387d3c1… (all of the seat's roots in one cut). By AI agents, Wed Nov 11 2026. No macro, syntax, notation, axiom, sorry.
-/
import Derived.Test.YtkjmngdcfheojaaChecked
import GoSem.Claim
import GoSem.ClaimJoined
import GoSem.ClaimMapViews
import Derived.JoinedTies
import Derived.KernelRfl
namespace Go.Proofs.Ytkjmngdcfheojaa
/- THE CELL 'sum', in the pinned program and in every row, IS THE sha256 OF THE DUMP (.gsa) THAT YtkjmngdcfheojaaProg.lean LOADS. Nothing in Lean hashes anything: it is a label: what it is worth is what the hold of that sum in a sandbox is worth. -/
noncomputable def Try.pinned : Pinned := { name := "ytkjmngdcfheojaa", sum := "abde37658387d3c1dad9bd08060556a2086a097284d31e183ac50bce4913a182", checked := Try.checked }
namespace Rows
def none {H : Type} : Left H := { results := [], args := [] }

/-- 'laws.FnAdversary': WHATEVER THE INPUT: true; the input reads as it did. -/
def fnAdversarySpec : ChangeSpec := { name := "fnAdversary", fn := fun _ => fun
  | [d] => { results := [.lit (.bool true)], args := [d] }
  | _ => none }
def fnAdversaryRow : OpenClaim := { program := "ytkjmngdcfheojaa", sum := "abde37658387d3c1dad9bd08060556a2086a097284d31e183ac50bce4913a182", func := "loop.example/g00907/laws.FnAdversary", spec := "fnAdversary", unfollowed := true, recurses := true, apart := false }
def FnAdversarySaid : Prop := fnAdversaryRow.holds Try.pinned (OpenSpec.ofChange fnAdversarySpec)

/-- ITS FALSE NEIGHBOUR: 'it returns false'. Refute it at one input. -/
def fnAdversaryWrong : ChangeSpec := { name := "fnAdversary", fn := fun _ => fun
  | [d] => { results := [.lit (.bool false)], args := [d] }
  | _ => none }
def FnAdversaryWrongFalsely : Prop := fnAdversaryRow.holds Try.pinned (OpenSpec.ofChange fnAdversaryWrong)

/-- 'laws.FnStable': WHATEVER THE INPUT: true; the input reads as it did. -/
def fnStableSpec : ChangeSpec := { name := "fnStable", fn := fun _ => fun
  | [d] => { results := [.lit (.bool true)], args := [d] }
  | _ => none }
def fnStableRow : OpenClaim := { program := "ytkjmngdcfheojaa", sum := "abde37658387d3c1dad9bd08060556a2086a097284d31e183ac50bce4913a182", func := "loop.example/g00907/laws.FnStable", spec := "fnStable", unfollowed := true, recurses := true, apart := false }
def FnStableSaid : Prop := fnStableRow.holds Try.pinned (OpenSpec.ofChange fnStableSpec)

/-- ITS FALSE NEIGHBOUR: 'it returns false'. Refute it at one input. -/
def fnStableWrong : ChangeSpec := { name := "fnStable", fn := fun _ => fun
  | [d] => { results := [.lit (.bool false)], args := [d] }
  | _ => none }
def FnStableWrongFalsely : Prop := fnStableRow.holds Try.pinned (OpenSpec.ofChange fnStableWrong)

/-- 'laws.FnExactCertifySort': WHATEVER THE INPUT: true; the input reads as it did. -/
def fnExactCertifySortSpec : ChangeSpec := { name := "fnExactCertifySort", fn := fun _ => fun
  | [d] => { results := [.lit (.bool true)], args := [d] }
  | _ => none }
def fnExactCertifySortRow : OpenClaim := { program := "ytkjmngdcfheojaa", sum := "abde37658387d3c1dad9bd08060556a2086a097284d31e183ac50bce4913a182", func := "loop.example/g00907/laws.FnExactCertifySort", spec := "fnExactCertifySort", unfollowed := true, recurses := true, apart := false }
def FnExactCertifySortSaid : Prop := fnExactCertifySortRow.holds Try.pinned (OpenSpec.ofChange fnExactCertifySortSpec)

/-- ITS FALSE NEIGHBOUR: 'it returns false'. Refute it at one input. -/
def fnExactCertifySortWrong : ChangeSpec := { name := "fnExactCertifySort", fn := fun _ => fun
  | [d] => { results := [.lit (.bool false)], args := [d] }
  | _ => none }
def FnExactCertifySortWrongFalsely : Prop := fnExactCertifySortRow.holds Try.pinned (OpenSpec.ofChange fnExactCertifySortWrong)

/-- 'laws.FnMergeSort': WHATEVER THE INPUT: true; the input reads as it did. -/
def fnMergeSortSpec : ChangeSpec := { name := "fnMergeSort", fn := fun _ => fun
  | [d] => { results := [.lit (.bool true)], args := [d] }
  | _ => none }
def fnMergeSortRow : OpenClaim := { program := "ytkjmngdcfheojaa", sum := "abde37658387d3c1dad9bd08060556a2086a097284d31e183ac50bce4913a182", func := "loop.example/g00907/laws.FnMergeSort", spec := "fnMergeSort", unfollowed := true, recurses := true, apart := false }
def FnMergeSortSaid : Prop := fnMergeSortRow.holds Try.pinned (OpenSpec.ofChange fnMergeSortSpec)

/-- ITS FALSE NEIGHBOUR: 'it returns false'. Refute it at one input. -/
def fnMergeSortWrong : ChangeSpec := { name := "fnMergeSort", fn := fun _ => fun
  | [d] => { results := [.lit (.bool false)], args := [d] }
  | _ => none }
def FnMergeSortWrongFalsely : Prop := fnMergeSortRow.holds Try.pinned (OpenSpec.ofChange fnMergeSortWrong)

/-- 'laws.FnMerge': WHATEVER THE INPUT: true; the input reads as it did. -/
def fnMergeSpec : ChangeSpec := { name := "fnMerge", fn := fun _ => fun
  | [d] => { results := [.lit (.bool true)], args := [d] }
  | _ => none }
def fnMergeRow : OpenClaim := { program := "ytkjmngdcfheojaa", sum := "abde37658387d3c1dad9bd08060556a2086a097284d31e183ac50bce4913a182", func := "loop.example/g00907/laws.FnMerge", spec := "fnMerge", unfollowed := true, recurses := true, apart := false }
def FnMergeSaid : Prop := fnMergeRow.holds Try.pinned (OpenSpec.ofChange fnMergeSpec)

/-- ITS FALSE NEIGHBOUR: 'it returns false'. Refute it at one input. -/
def fnMergeWrong : ChangeSpec := { name := "fnMerge", fn := fun _ => fun
  | [d] => { results := [.lit (.bool false)], args := [d] }
  | _ => none }
def FnMergeWrongFalsely : Prop := fnMergeRow.holds Try.pinned (OpenSpec.ofChange fnMergeWrong)

/-- 'laws.FnDistinct': WHATEVER THE INPUT: true; the input reads as it did. -/
def fnDistinctSpec : ChangeSpec := { name := "fnDistinct", fn := fun _ => fun
  | [d] => { results := [.lit (.bool true)], args := [d] }
  | _ => none }
def fnDistinctRow : OpenClaim := { program := "ytkjmngdcfheojaa", sum := "abde37658387d3c1dad9bd08060556a2086a097284d31e183ac50bce4913a182", func := "loop.example/g00907/laws.FnDistinct", spec := "fnDistinct", unfollowed := true, recurses := true, apart := false }
def FnDistinctSaid : Prop := fnDistinctRow.holds Try.pinned (OpenSpec.ofChange fnDistinctSpec)

/-- ITS FALSE NEIGHBOUR: 'it returns false'. Refute it at one input. -/
def fnDistinctWrong : ChangeSpec := { name := "fnDistinct", fn := fun _ => fun
  | [d] => { results := [.lit (.bool false)], args := [d] }
  | _ => none }
def FnDistinctWrongFalsely : Prop := fnDistinctRow.holds Try.pinned (OpenSpec.ofChange fnDistinctWrong)

/-- 'laws.FnFingerprint': WHATEVER THE INPUT: true; the input reads as it did. -/
def fnFingerprintSpec : ChangeSpec := { name := "fnFingerprint", fn := fun _ => fun
  | [d] => { results := [.lit (.bool true)], args := [d] }
  | _ => none }
def fnFingerprintRow : OpenClaim := { program := "ytkjmngdcfheojaa", sum := "abde37658387d3c1dad9bd08060556a2086a097284d31e183ac50bce4913a182", func := "loop.example/g00907/laws.FnFingerprint", spec := "fnFingerprint", unfollowed := true, recurses := true, apart := false }
def FnFingerprintSaid : Prop := fnFingerprintRow.holds Try.pinned (OpenSpec.ofChange fnFingerprintSpec)

/-- ITS FALSE NEIGHBOUR: 'it returns false'. Refute it at one input. -/
def fnFingerprintWrong : ChangeSpec := { name := "fnFingerprint", fn := fun _ => fun
  | [d] => { results := [.lit (.bool false)], args := [d] }
  | _ => none }
def FnFingerprintWrongFalsely : Prop := fnFingerprintRow.holds Try.pinned (OpenSpec.ofChange fnFingerprintWrong)

/-- 'laws.FnPlanner': WHATEVER THE INPUT: true; the input reads as it did. -/
def fnPlannerSpec : ChangeSpec := { name := "fnPlanner", fn := fun _ => fun
  | [d] => { results := [.lit (.bool true)], args := [d] }
  | _ => none }
def fnPlannerRow : OpenClaim := { program := "ytkjmngdcfheojaa", sum := "abde37658387d3c1dad9bd08060556a2086a097284d31e183ac50bce4913a182", func := "loop.example/g00907/laws.FnPlanner", spec := "fnPlanner", unfollowed := true, recurses := true, apart := false }
def FnPlannerSaid : Prop := fnPlannerRow.holds Try.pinned (OpenSpec.ofChange fnPlannerSpec)

/-- ITS FALSE NEIGHBOUR: 'it returns false'. Refute it at one input. -/
def fnPlannerWrong : ChangeSpec := { name := "fnPlanner", fn := fun _ => fun
  | [d] => { results := [.lit (.bool false)], args := [d] }
  | _ => none }
def FnPlannerWrongFalsely : Prop := fnPlannerRow.holds Try.pinned (OpenSpec.ofChange fnPlannerWrong)

/- THE SECOND FORM. 'bulk': how many values and letters a reading holds, each counted each time it is reached (what is shared counts as often as it is met; a slice's spare places count too). A statement '..UptoSaid' is the law's where the arguments, and the package variables that the reading takes, are together of bulk at most 1048576: NARROWER than '..Said'. Prove '..Said' where nothing that the law and all that it calls make is longer than what came in: it says more and counts as full. Else prove '..UptoSaid'. A law counts once. -/
mutual
def uptoBulk {H : Type} : DataW H → Nat
  | .lit (.string bytes) => bytes.length + 1
  | .lit _ => 1
  | .nil => 1
  | .ptr d => uptoBulk d + 1
  | .slice elems spare => uptoBulkAll elems + uptoBulkAll spare + 1
  | .agg parts => uptoBulkAll parts + 1
  | .iface _ d => uptoBulk d + 1
  | .map entries => uptoBulkEntries entries + 1
  | .held _ => 1
def uptoBulkAll {H : Type} : List (DataW H) → Nat
  | [] => 0
  | d :: r => uptoBulk d + uptoBulkAll r
def uptoBulkEntries {H : Type} : List (Lit × DataW H) → Nat
  | [] => 0
  | x :: r => uptoBulkEntry x + uptoBulkEntries r
def uptoBulkEntry {H : Type} : Lit × DataW H → Nat
  | (.string bytes, d) => bytes.length + uptoBulk d + 1
  | (_, d) => uptoBulk d + 1
 end
def uptoSmall : (H : Type) → List (DataW H) → Bool := fun _ ds => decide (uptoBulkAll ds ≤ 1048576)
def OpenSpec.upto (s : _root_.Go.ChangeSpec) : _root_.Go.OpenSpec := { _root_.Go.OpenSpec.ofChange s with cond := some uptoSmall }

/-- 'laws.FnAdversary', WHERE WHAT IT READS IS OF BULK AT MOST 1048576: true; the input reads as it did. -/
def fnAdversaryUptoRow : OpenClaim := { program := "ytkjmngdcfheojaa", sum := "abde37658387d3c1dad9bd08060556a2086a097284d31e183ac50bce4913a182", func := "loop.example/g00907/laws.FnAdversary", spec := "fnAdversary", unfollowed := true, recurses := true, apart := false, narrowed := true }
def FnAdversaryUptoSaid : Prop := fnAdversaryUptoRow.holds Try.pinned (OpenSpec.upto fnAdversarySpec)

/-- 'laws.FnStable', WHERE WHAT IT READS IS OF BULK AT MOST 1048576: true; the input reads as it did. -/
def fnStableUptoRow : OpenClaim := { program := "ytkjmngdcfheojaa", sum := "abde37658387d3c1dad9bd08060556a2086a097284d31e183ac50bce4913a182", func := "loop.example/g00907/laws.FnStable", spec := "fnStable", unfollowed := true, recurses := true, apart := false, narrowed := true }
def FnStableUptoSaid : Prop := fnStableUptoRow.holds Try.pinned (OpenSpec.upto fnStableSpec)

/-- 'laws.FnExactCertifySort', WHERE WHAT IT READS IS OF BULK AT MOST 1048576: true; the input reads as it did. -/
def fnExactCertifySortUptoRow : OpenClaim := { program := "ytkjmngdcfheojaa", sum := "abde37658387d3c1dad9bd08060556a2086a097284d31e183ac50bce4913a182", func := "loop.example/g00907/laws.FnExactCertifySort", spec := "fnExactCertifySort", unfollowed := true, recurses := true, apart := false, narrowed := true }
def FnExactCertifySortUptoSaid : Prop := fnExactCertifySortUptoRow.holds Try.pinned (OpenSpec.upto fnExactCertifySortSpec)

/-- 'laws.FnMergeSort', WHERE WHAT IT READS IS OF BULK AT MOST 1048576: true; the input reads as it did. -/
def fnMergeSortUptoRow : OpenClaim := { program := "ytkjmngdcfheojaa", sum := "abde37658387d3c1dad9bd08060556a2086a097284d31e183ac50bce4913a182", func := "loop.example/g00907/laws.FnMergeSort", spec := "fnMergeSort", unfollowed := true, recurses := true, apart := false, narrowed := true }
def FnMergeSortUptoSaid : Prop := fnMergeSortUptoRow.holds Try.pinned (OpenSpec.upto fnMergeSortSpec)

/-- 'laws.FnMerge', WHERE WHAT IT READS IS OF BULK AT MOST 1048576: true; the input reads as it did. -/
def fnMergeUptoRow : OpenClaim := { program := "ytkjmngdcfheojaa", sum := "abde37658387d3c1dad9bd08060556a2086a097284d31e183ac50bce4913a182", func := "loop.example/g00907/laws.FnMerge", spec := "fnMerge", unfollowed := true, recurses := true, apart := false, narrowed := true }
def FnMergeUptoSaid : Prop := fnMergeUptoRow.holds Try.pinned (OpenSpec.upto fnMergeSpec)

/-- 'laws.FnDistinct', WHERE WHAT IT READS IS OF BULK AT MOST 1048576: true; the input reads as it did. -/
def fnDistinctUptoRow : OpenClaim := { program := "ytkjmngdcfheojaa", sum := "abde37658387d3c1dad9bd08060556a2086a097284d31e183ac50bce4913a182", func := "loop.example/g00907/laws.FnDistinct", spec := "fnDistinct", unfollowed := true, recurses := true, apart := false, narrowed := true }
def FnDistinctUptoSaid : Prop := fnDistinctUptoRow.holds Try.pinned (OpenSpec.upto fnDistinctSpec)

/-- 'laws.FnFingerprint', WHERE WHAT IT READS IS OF BULK AT MOST 1048576: true; the input reads as it did. -/
def fnFingerprintUptoRow : OpenClaim := { program := "ytkjmngdcfheojaa", sum := "abde37658387d3c1dad9bd08060556a2086a097284d31e183ac50bce4913a182", func := "loop.example/g00907/laws.FnFingerprint", spec := "fnFingerprint", unfollowed := true, recurses := true, apart := false, narrowed := true }
def FnFingerprintUptoSaid : Prop := fnFingerprintUptoRow.holds Try.pinned (OpenSpec.upto fnFingerprintSpec)

/-- 'laws.FnPlanner', WHERE WHAT IT READS IS OF BULK AT MOST 1048576: true; the input reads as it did. -/
def fnPlannerUptoRow : OpenClaim := { program := "ytkjmngdcfheojaa", sum := "abde37658387d3c1dad9bd08060556a2086a097284d31e183ac50bce4913a182", func := "loop.example/g00907/laws.FnPlanner", spec := "fnPlanner", unfollowed := true, recurses := true, apart := false, narrowed := true }
def FnPlannerUptoSaid : Prop := fnPlannerUptoRow.holds Try.pinned (OpenSpec.upto fnPlannerSpec)

end Rows
end Go.Proofs.Ytkjmngdcfheojaa

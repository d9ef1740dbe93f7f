/-
  No cell of these rows narrows 'for every input' (looked for: loops, veiled, ifaces, maps, wideKeys, modest, calm, conditions, laid).
  DERIVED. THE GIVEN ROWS OF THIS SEAT. 6 by the template 'for every input the law returns true; each argument reads behind the call as it read before'; 0 by the template 'total and deterministic' (their statements: YtoaklfpepleelaaTotals.lean).
  GIVEN WITH THE SEED: the statements are not yours to turn. If you find one false, say at which input.
  Laid BY PROGRAM, IN A SANDBOX (cutbox-rows.mjs): the forced cells as the released guide's own fill.sh prints them over the translation 68b854e973435fea… (all of the seat's roots in one cut). By AI agents, Wed Nov 11 2026. No macro, syntax, notation, axiom, sorry.
-/
import Derived.Test.YtoaklfpepleelaaChecked
import GoSem.Claim
import GoSem.ClaimJoined
import GoSem.ClaimMapViews
import Derived.JoinedTies
import Derived.KernelRfl
namespace Go.Proofs.Ytoaklfpepleelaa
/- THE CELL 'sum', in the pinned program and in every row, IS THE sha256 OF THE DUMP (.gsa) THAT YtoaklfpepleelaaProg.lean LOADS. Nothing in Lean hashes anything: it is a label: what it is worth is what the hold of that sum in a sandbox is worth. -/
noncomputable def Try.pinned : Pinned := { name := "ytoaklfpepleelaa", sum := "68b854e973435fea038795427a85f0e6cf3a141e26ba054f4820dc973bafa2f1", checked := Try.checked }
namespace Rows
def none {H : Type} : Left H := { results := [], args := [] }

/-- 'laws.FnExactConsistentOrders': WHATEVER THE INPUT: true; the input reads as it did. -/
def fnExactConsistentOrdersSpec : ChangeSpec := { name := "fnExactConsistentOrders", fn := fun _ => fun
  | [d1, d2] => { results := [.lit (.bool true)], args := [d1, d2] }
  | _ => none }
def fnExactConsistentOrdersRow : OpenClaim := { program := "ytoaklfpepleelaa", sum := "68b854e973435fea038795427a85f0e6cf3a141e26ba054f4820dc973bafa2f1", func := "loop.example/g00907/laws.FnExactConsistentOrders", spec := "fnExactConsistentOrders", unfollowed := true, recurses := true, apart := false }
def FnExactConsistentOrdersSaid : Prop := fnExactConsistentOrdersRow.holds Try.pinned (OpenSpec.ofChange fnExactConsistentOrdersSpec)

/-- ITS FALSE NEIGHBOUR: 'it returns false'. Refute it at one input. -/
def fnExactConsistentOrdersWrong : ChangeSpec := { name := "fnExactConsistentOrders", fn := fun _ => fun
  | [d1, d2] => { results := [.lit (.bool false)], args := [d1, d2] }
  | _ => none }
def FnExactConsistentOrdersWrongFalsely : Prop := fnExactConsistentOrdersRow.holds Try.pinned (OpenSpec.ofChange fnExactConsistentOrdersWrong)

/-- 'laws.FnExactAdversaryAnswer': WHATEVER THE INPUT: true; the input reads as it did. -/
def fnExactAdversaryAnswerSpec : ChangeSpec := { name := "fnExactAdversaryAnswer", fn := fun _ => fun
  | [d1, d2, d3, d4] => { results := [.lit (.bool true)], args := [d1, d2, d3, d4] }
  | _ => none }
def fnExactAdversaryAnswerRow : OpenClaim := { program := "ytoaklfpepleelaa", sum := "68b854e973435fea038795427a85f0e6cf3a141e26ba054f4820dc973bafa2f1", func := "loop.example/g00907/laws.FnExactAdversaryAnswer", spec := "fnExactAdversaryAnswer", unfollowed := true, recurses := true, apart := false }
def FnExactAdversaryAnswerSaid : Prop := fnExactAdversaryAnswerRow.holds Try.pinned (OpenSpec.ofChange fnExactAdversaryAnswerSpec)

/-- ITS FALSE NEIGHBOUR: 'it returns false'. Refute it at one input. -/
def fnExactAdversaryAnswerWrong : ChangeSpec := { name := "fnExactAdversaryAnswer", fn := fun _ => fun
  | [d1, d2, d3, d4] => { results := [.lit (.bool false)], args := [d1, d2, d3, d4] }
  | _ => none }
def FnExactAdversaryAnswerWrongFalsely : Prop := fnExactAdversaryAnswerRow.holds Try.pinned (OpenSpec.ofChange fnExactAdversaryAnswerWrong)

/-- 'laws.FnExactIsValidDecisions': WHATEVER THE INPUT: true; the input reads as it did. -/
def fnExactIsValidDecisionsSpec : ChangeSpec := { name := "fnExactIsValidDecisions", fn := fun _ => fun
  | [d1, d2] => { results := [.lit (.bool true)], args := [d1, d2] }
  | _ => none }
def fnExactIsValidDecisionsRow : OpenClaim := { program := "ytoaklfpepleelaa", sum := "68b854e973435fea038795427a85f0e6cf3a141e26ba054f4820dc973bafa2f1", func := "loop.example/g00907/laws.FnExactIsValidDecisions", spec := "fnExactIsValidDecisions", unfollowed := true, recurses := true, apart := false }
def FnExactIsValidDecisionsSaid : Prop := fnExactIsValidDecisionsRow.holds Try.pinned (OpenSpec.ofChange fnExactIsValidDecisionsSpec)

/-- ITS FALSE NEIGHBOUR: 'it returns false'. Refute it at one input. -/
def fnExactIsValidDecisionsWrong : ChangeSpec := { name := "fnExactIsValidDecisions", fn := fun _ => fun
  | [d1, d2] => { results := [.lit (.bool false)], args := [d1, d2] }
  | _ => none }
def FnExactIsValidDecisionsWrongFalsely : Prop := fnExactIsValidDecisionsRow.holds Try.pinned (OpenSpec.ofChange fnExactIsValidDecisionsWrong)

/-- 'laws.FnExactBestComparison': WHATEVER THE INPUT: true; the input reads as it did. -/
def fnExactBestComparisonSpec : ChangeSpec := { name := "fnExactBestComparison", fn := fun _ => fun
  | [d1, d2] => { results := [.lit (.bool true)], args := [d1, d2] }
  | _ => none }
def fnExactBestComparisonRow : OpenClaim := { program := "ytoaklfpepleelaa", sum := "68b854e973435fea038795427a85f0e6cf3a141e26ba054f4820dc973bafa2f1", func := "loop.example/g00907/laws.FnExactBestComparison", spec := "fnExactBestComparison", unfollowed := true, recurses := true, apart := false }
def FnExactBestComparisonSaid : Prop := fnExactBestComparisonRow.holds Try.pinned (OpenSpec.ofChange fnExactBestComparisonSpec)

/-- ITS FALSE NEIGHBOUR: 'it returns false'. Refute it at one input. -/
def fnExactBestComparisonWrong : ChangeSpec := { name := "fnExactBestComparison", fn := fun _ => fun
  | [d1, d2] => { results := [.lit (.bool false)], args := [d1, d2] }
  | _ => none }
def FnExactBestComparisonWrongFalsely : Prop := fnExactBestComparisonRow.holds Try.pinned (OpenSpec.ofChange fnExactBestComparisonWrong)

/-- 'laws.FnExactSameElements': WHATEVER THE INPUT: true; the input reads as it did. -/
def fnExactSameElementsSpec : ChangeSpec := { name := "fnExactSameElements", fn := fun _ => fun
  | [d1, d2] => { results := [.lit (.bool true)], args := [d1, d2] }
  | _ => none }
def fnExactSameElementsRow : OpenClaim := { program := "ytoaklfpepleelaa", sum := "68b854e973435fea038795427a85f0e6cf3a141e26ba054f4820dc973bafa2f1", func := "loop.example/g00907/laws.FnExactSameElements", spec := "fnExactSameElements", unfollowed := true, recurses := true, apart := false }
def FnExactSameElementsSaid : Prop := fnExactSameElementsRow.holds Try.pinned (OpenSpec.ofChange fnExactSameElementsSpec)

/-- ITS FALSE NEIGHBOUR: 'it returns false'. Refute it at one input. -/
def fnExactSameElementsWrong : ChangeSpec := { name := "fnExactSameElements", fn := fun _ => fun
  | [d1, d2] => { results := [.lit (.bool false)], args := [d1, d2] }
  | _ => none }
def FnExactSameElementsWrongFalsely : Prop := fnExactSameElementsRow.holds Try.pinned (OpenSpec.ofChange fnExactSameElementsWrong)

/-- 'laws.FnExactProfileOf': WHATEVER THE INPUT: true; the input reads as it did. -/
def fnExactProfileOfSpec : ChangeSpec := { name := "fnExactProfileOf", fn := fun _ => fun
  | [d] => { results := [.lit (.bool true)], args := [d] }
  | _ => none }
def fnExactProfileOfRow : OpenClaim := { program := "ytoaklfpepleelaa", sum := "68b854e973435fea038795427a85f0e6cf3a141e26ba054f4820dc973bafa2f1", func := "loop.example/g00907/laws.FnExactProfileOf", spec := "fnExactProfileOf", unfollowed := true, recurses := true, apart := false }
def FnExactProfileOfSaid : Prop := fnExactProfileOfRow.holds Try.pinned (OpenSpec.ofChange fnExactProfileOfSpec)

/-- ITS FALSE NEIGHBOUR: 'it returns false'. Refute it at one input. -/
def fnExactProfileOfWrong : ChangeSpec := { name := "fnExactProfileOf", fn := fun _ => fun
  | [d] => { results := [.lit (.bool false)], args := [d] }
  | _ => none }
def FnExactProfileOfWrongFalsely : Prop := fnExactProfileOfRow.holds Try.pinned (OpenSpec.ofChange fnExactProfileOfWrong)

/- THE SECOND FORM. 'bulk': how many values and letters a reading holds, each counted each time it is reached (what is shared counts as often as it is met; a slice's spare places count too). A statement '..UptoSaid' is the law's where the arguments, and the package variables that the reading takes, are together of bulk at most 1048576: NARROWER than '..Said'. Prove '..Said' where nothing that the law and all that it calls make is longer than what came in: it says more and counts as full. Else prove '..UptoSaid'. A law counts once. -/
mutual
def uptoBulk {H : Type} : DataW H → Nat
  | .lit (.string bytes) => bytes.length + 1
  | .lit _ => 1
  | .nil => 1
  | .ptr d => uptoBulk d + 1
  | .slice elems spare => uptoBulkAll elems + uptoBulkAll spare + 1
  | .agg parts => uptoBulkAll parts + 1
  | .iface _ d => uptoBulk d + 1
  | .map entries => uptoBulkEntries entries + 1
  | .held _ => 1
def uptoBulkAll {H : Type} : List (DataW H) → Nat
  | [] => 0
  | d :: r => uptoBulk d + uptoBulkAll r
def uptoBulkEntries {H : Type} : List (Lit × DataW H) → Nat
  | [] => 0
  | x :: r => uptoBulkEntry x + uptoBulkEntries r
def uptoBulkEntry {H : Type} : Lit × DataW H → Nat
  | (.string bytes, d) => bytes.length + uptoBulk d + 1
  | (_, d) => uptoBulk d + 1
 end
def uptoSmall : (H : Type) → List (DataW H) → Bool := fun _ ds => decide (uptoBulkAll ds ≤ 1048576)
def OpenSpec.upto (s : _root_.Go.ChangeSpec) : _root_.Go.OpenSpec := { _root_.Go.OpenSpec.ofChange s with cond := some uptoSmall }

/-- 'laws.FnExactConsistentOrders', WHERE WHAT IT READS IS OF BULK AT MOST 1048576: true; the input reads as it did. -/
def fnExactConsistentOrdersUptoRow : OpenClaim := { program := "ytoaklfpepleelaa", sum := "68b854e973435fea038795427a85f0e6cf3a141e26ba054f4820dc973bafa2f1", func := "loop.example/g00907/laws.FnExactConsistentOrders", spec := "fnExactConsistentOrders", unfollowed := true, recurses := true, apart := false, narrowed := true }
def FnExactConsistentOrdersUptoSaid : Prop := fnExactConsistentOrdersUptoRow.holds Try.pinned (OpenSpec.upto fnExactConsistentOrdersSpec)

/-- 'laws.FnExactAdversaryAnswer', WHERE WHAT IT READS IS OF BULK AT MOST 1048576: true; the input reads as it did. -/
def fnExactAdversaryAnswerUptoRow : OpenClaim := { program := "ytoaklfpepleelaa", sum := "68b854e973435fea038795427a85f0e6cf3a141e26ba054f4820dc973bafa2f1", func := "loop.example/g00907/laws.FnExactAdversaryAnswer", spec := "fnExactAdversaryAnswer", unfollowed := true, recurses := true, apart := false, narrowed := true }
def FnExactAdversaryAnswerUptoSaid : Prop := fnExactAdversaryAnswerUptoRow.holds Try.pinned (OpenSpec.upto fnExactAdversaryAnswerSpec)

/-- 'laws.FnExactIsValidDecisions', WHERE WHAT IT READS IS OF BULK AT MOST 1048576: true; the input reads as it did. -/
def fnExactIsValidDecisionsUptoRow : OpenClaim := { program := "ytoaklfpepleelaa", sum := "68b854e973435fea038795427a85f0e6cf3a141e26ba054f4820dc973bafa2f1", func := "loop.example/g00907/laws.FnExactIsValidDecisions", spec := "fnExactIsValidDecisions", unfollowed := true, recurses := true, apart := false, narrowed := true }
def FnExactIsValidDecisionsUptoSaid : Prop := fnExactIsValidDecisionsUptoRow.holds Try.pinned (OpenSpec.upto fnExactIsValidDecisionsSpec)

/-- 'laws.FnExactBestComparison', WHERE WHAT IT READS IS OF BULK AT MOST 1048576: true; the input reads as it did. -/
def fnExactBestComparisonUptoRow : OpenClaim := { program := "ytoaklfpepleelaa", sum := "68b854e973435fea038795427a85f0e6cf3a141e26ba054f4820dc973bafa2f1", func := "loop.example/g00907/laws.FnExactBestComparison", spec := "fnExactBestComparison", unfollowed := true, recurses := true, apart := false, narrowed := true }
def FnExactBestComparisonUptoSaid : Prop := fnExactBestComparisonUptoRow.holds Try.pinned (OpenSpec.upto fnExactBestComparisonSpec)

/-- 'laws.FnExactSameElements', WHERE WHAT IT READS IS OF BULK AT MOST 1048576: true; the input reads as it did. -/
def fnExactSameElementsUptoRow : OpenClaim := { program := "ytoaklfpepleelaa", sum := "68b854e973435fea038795427a85f0e6cf3a141e26ba054f4820dc973bafa2f1", func := "loop.example/g00907/laws.FnExactSameElements", spec := "fnExactSameElements", unfollowed := true, recurses := true, apart := false, narrowed := true }
def FnExactSameElementsUptoSaid : Prop := fnExactSameElementsUptoRow.holds Try.pinned (OpenSpec.upto fnExactSameElementsSpec)

/-- 'laws.FnExactProfileOf', WHERE WHAT IT READS IS OF BULK AT MOST 1048576: true; the input reads as it did. -/
def fnExactProfileOfUptoRow : OpenClaim := { program := "ytoaklfpepleelaa", sum := "68b854e973435fea038795427a85f0e6cf3a141e26ba054f4820dc973bafa2f1", func := "loop.example/g00907/laws.FnExactProfileOf", spec := "fnExactProfileOf", unfollowed := true, recurses := true, apart := false, narrowed := true }
def FnExactProfileOfUptoSaid : Prop := fnExactProfileOfUptoRow.holds Try.pinned (OpenSpec.upto fnExactProfileOfSpec)

end Rows
end Go.Proofs.Ytoaklfpepleelaa

/-
  No cell of these rows narrows 'for every input' (looked for: loops, veiled, ifaces, maps, wideKeys, modest, calm, conditions, laid).
  DERIVED. THE GIVEN ROWS OF THIS SEAT. 8 by the template 'for every input the law returns true; each argument reads behind the call as it read before'; 0 by the template 'total and deterministic' (their statements: YtmolneojjcjooaaTotals.lean).
  GIVEN WITH THE SEED: the statements are not yours to turn. If you find one false, say at which input.
  Laid BY PROGRAM, IN A SANDBOX (cutbox-rows.mjs): the forced cells as the released guide's own fill.sh prints them over the translation a3f4eb1e6c93b9ae… (all of the seat's roots in one cut). By AI agents, Wed Nov 11 2026. No macro, syntax, notation, axiom, sorry.
-/
import Derived.Test.YtmolneojjcjooaaChecked
import GoSem.Claim
import GoSem.ClaimJoined
import GoSem.ClaimMapViews
import Derived.JoinedTies
import Derived.KernelRfl
namespace Go.Proofs.Ytmolneojjcjooaa
/- THE CELL 'sum', in the pinned program and in every row, IS THE sha256 OF THE DUMP (.gsa) THAT YtmolneojjcjooaaProg.lean LOADS. Nothing in Lean hashes anything: it is a label: what it is worth is what the hold of that sum in a sandbox is worth. -/
noncomputable def Try.pinned : Pinned := { name := "ytmolneojjcjooaa", sum := "a3f4eb1e6c93b9aee306db39cff3d97cec3adfb3b21237f49edbc3cae563f442", checked := Try.checked }
namespace Rows
def none {H : Type} : Left H := { results := [], args := [] }

/-- 'laws.FnExactIsValidDecisions': WHATEVER THE INPUT: true; the input reads as it did. -/
def fnExactIsValidDecisionsSpec : ChangeSpec := { name := "fnExactIsValidDecisions", fn := fun _ => fun
  | [d1, d2] => { results := [.lit (.bool true)], args := [d1, d2] }
  | _ => none }
def fnExactIsValidDecisionsRow : OpenClaim := { program := "ytmolneojjcjooaa", sum := "a3f4eb1e6c93b9aee306db39cff3d97cec3adfb3b21237f49edbc3cae563f442", func := "loop.example/g00907/laws.FnExactIsValidDecisions", spec := "fnExactIsValidDecisions", unfollowed := true, recurses := true, apart := false }
def FnExactIsValidDecisionsSaid : Prop := fnExactIsValidDecisionsRow.holds Try.pinned (OpenSpec.ofChange fnExactIsValidDecisionsSpec)

/-- ITS FALSE NEIGHBOUR: 'it returns false'. Refute it at one input. -/
def fnExactIsValidDecisionsWrong : ChangeSpec := { name := "fnExactIsValidDecisions", fn := fun _ => fun
  | [d1, d2] => { results := [.lit (.bool false)], args := [d1, d2] }
  | _ => none }
def FnExactIsValidDecisionsWrongFalsely : Prop := fnExactIsValidDecisionsRow.holds Try.pinned (OpenSpec.ofChange fnExactIsValidDecisionsWrong)

/-- 'laws.FnExactRunDecisions': WHATEVER THE INPUT: true; the input reads as it did. -/
def fnExactRunDecisionsSpec : ChangeSpec := { name := "fnExactRunDecisions", fn := fun _ => fun
  | [d1, d2] => { results := [.lit (.bool true)], args := [d1, d2] }
  | _ => none }
def fnExactRunDecisionsRow : OpenClaim := { program := "ytmolneojjcjooaa", sum := "a3f4eb1e6c93b9aee306db39cff3d97cec3adfb3b21237f49edbc3cae563f442", func := "loop.example/g00907/laws.FnExactRunDecisions", spec := "fnExactRunDecisions", unfollowed := true, recurses := true, apart := false }
def FnExactRunDecisionsSaid : Prop := fnExactRunDecisionsRow.holds Try.pinned (OpenSpec.ofChange fnExactRunDecisionsSpec)

/-- ITS FALSE NEIGHBOUR: 'it returns false'. Refute it at one input. -/
def fnExactRunDecisionsWrong : ChangeSpec := { name := "fnExactRunDecisions", fn := fun _ => fun
  | [d1, d2] => { results := [.lit (.bool false)], args := [d1, d2] }
  | _ => none }
def FnExactRunDecisionsWrongFalsely : Prop := fnExactRunDecisionsRow.holds Try.pinned (OpenSpec.ofChange fnExactRunDecisionsWrong)

/-- 'laws.FnTop': WHATEVER THE INPUT: true; the input reads as it did. -/
def fnTopSpec : ChangeSpec := { name := "fnTop", fn := fun _ => fun
  | [d] => { results := [.lit (.bool true)], args := [d] }
  | _ => none }
def fnTopRow : OpenClaim := { program := "ytmolneojjcjooaa", sum := "a3f4eb1e6c93b9aee306db39cff3d97cec3adfb3b21237f49edbc3cae563f442", func := "loop.example/g00907/laws.FnTop", spec := "fnTop", unfollowed := true, recurses := true, apart := false }
def FnTopSaid : Prop := fnTopRow.holds Try.pinned (OpenSpec.ofChange fnTopSpec)

/-- ITS FALSE NEIGHBOUR: 'it returns false'. Refute it at one input. -/
def fnTopWrong : ChangeSpec := { name := "fnTop", fn := fun _ => fun
  | [d] => { results := [.lit (.bool false)], args := [d] }
  | _ => none }
def FnTopWrongFalsely : Prop := fnTopRow.holds Try.pinned (OpenSpec.ofChange fnTopWrong)

/-- 'laws.FnExactDecisionCost': WHATEVER THE INPUT: true; the input reads as it did. -/
def fnExactDecisionCostSpec : ChangeSpec := { name := "fnExactDecisionCost", fn := fun _ => fun
  | [d1, d2] => { results := [.lit (.bool true)], args := [d1, d2] }
  | _ => none }
def fnExactDecisionCostRow : OpenClaim := { program := "ytmolneojjcjooaa", sum := "a3f4eb1e6c93b9aee306db39cff3d97cec3adfb3b21237f49edbc3cae563f442", func := "loop.example/g00907/laws.FnExactDecisionCost", spec := "fnExactDecisionCost", unfollowed := true, recurses := true, apart := false }
def FnExactDecisionCostSaid : Prop := fnExactDecisionCostRow.holds Try.pinned (OpenSpec.ofChange fnExactDecisionCostSpec)

/-- ITS FALSE NEIGHBOUR: 'it returns false'. Refute it at one input. -/
def fnExactDecisionCostWrong : ChangeSpec := { name := "fnExactDecisionCost", fn := fun _ => fun
  | [d1, d2] => { results := [.lit (.bool false)], args := [d1, d2] }
  | _ => none }
def FnExactDecisionCostWrongFalsely : Prop := fnExactDecisionCostRow.holds Try.pinned (OpenSpec.ofChange fnExactDecisionCostWrong)

/-- 'laws.FnExactFirstMistake': WHATEVER THE INPUT: true; the input reads as it did. -/
def fnExactFirstMistakeSpec : ChangeSpec := { name := "fnExactFirstMistake", fn := fun _ => fun
  | [d1, d2] => { results := [.lit (.bool true)], args := [d1, d2] }
  | _ => none }
def fnExactFirstMistakeRow : OpenClaim := { program := "ytmolneojjcjooaa", sum := "a3f4eb1e6c93b9aee306db39cff3d97cec3adfb3b21237f49edbc3cae563f442", func := "loop.example/g00907/laws.FnExactFirstMistake", spec := "fnExactFirstMistake", unfollowed := true, recurses := true, apart := false }
def FnExactFirstMistakeSaid : Prop := fnExactFirstMistakeRow.holds Try.pinned (OpenSpec.ofChange fnExactFirstMistakeSpec)

/-- ITS FALSE NEIGHBOUR: 'it returns false'. Refute it at one input. -/
def fnExactFirstMistakeWrong : ChangeSpec := { name := "fnExactFirstMistake", fn := fun _ => fun
  | [d1, d2] => { results := [.lit (.bool false)], args := [d1, d2] }
  | _ => none }
def FnExactFirstMistakeWrongFalsely : Prop := fnExactFirstMistakeRow.holds Try.pinned (OpenSpec.ofChange fnExactFirstMistakeWrong)

/-- 'laws.FnTopStream': WHATEVER THE INPUT: true; the input reads as it did. -/
def fnTopStreamSpec : ChangeSpec := { name := "fnTopStream", fn := fun _ => fun
  | [d] => { results := [.lit (.bool true)], args := [d] }
  | _ => none }
def fnTopStreamRow : OpenClaim := { program := "ytmolneojjcjooaa", sum := "a3f4eb1e6c93b9aee306db39cff3d97cec3adfb3b21237f49edbc3cae563f442", func := "loop.example/g00907/laws.FnTopStream", spec := "fnTopStream", inPlace := ["slices.overlaps[loop.example/g00907/impl.Record]"], unfollowed := true, recurses := true, apart := false }
def FnTopStreamSaid : Prop := fnTopStreamRow.holds Try.pinned (OpenSpec.ofChange fnTopStreamSpec)

/-- ITS FALSE NEIGHBOUR: 'it returns false'. Refute it at one input. -/
def fnTopStreamWrong : ChangeSpec := { name := "fnTopStream", fn := fun _ => fun
  | [d] => { results := [.lit (.bool false)], args := [d] }
  | _ => none }
def FnTopStreamWrongFalsely : Prop := fnTopStreamRow.holds Try.pinned (OpenSpec.ofChange fnTopStreamWrong)

/-- 'laws.FnPolyphase': WHATEVER THE INPUT: true; the input reads as it did. -/
def fnPolyphaseSpec : ChangeSpec := { name := "fnPolyphase", fn := fun _ => fun
  | [d] => { results := [.lit (.bool true)], args := [d] }
  | _ => none }
def fnPolyphaseRow : OpenClaim := { program := "ytmolneojjcjooaa", sum := "a3f4eb1e6c93b9aee306db39cff3d97cec3adfb3b21237f49edbc3cae563f442", func := "loop.example/g00907/laws.FnPolyphase", spec := "fnPolyphase", unfollowed := true, recurses := true, apart := false }
def FnPolyphaseSaid : Prop := fnPolyphaseRow.holds Try.pinned (OpenSpec.ofChange fnPolyphaseSpec)

/-- ITS FALSE NEIGHBOUR: 'it returns false'. Refute it at one input. -/
def fnPolyphaseWrong : ChangeSpec := { name := "fnPolyphase", fn := fun _ => fun
  | [d] => { results := [.lit (.bool false)], args := [d] }
  | _ => none }
def FnPolyphaseWrongFalsely : Prop := fnPolyphaseRow.holds Try.pinned (OpenSpec.ofChange fnPolyphaseWrong)

/-- 'laws.FnDecisions': WHATEVER THE INPUT: true; the input reads as it did. -/
def fnDecisionsSpec : ChangeSpec := { name := "fnDecisions", fn := fun _ => fun
  | [d] => { results := [.lit (.bool true)], args := [d] }
  | _ => none }
def fnDecisionsRow : OpenClaim := { program := "ytmolneojjcjooaa", sum := "a3f4eb1e6c93b9aee306db39cff3d97cec3adfb3b21237f49edbc3cae563f442", func := "loop.example/g00907/laws.FnDecisions", spec := "fnDecisions", unfollowed := true, recurses := true, apart := false }
def FnDecisionsSaid : Prop := fnDecisionsRow.holds Try.pinned (OpenSpec.ofChange fnDecisionsSpec)

/-- ITS FALSE NEIGHBOUR: 'it returns false'. Refute it at one input. -/
def fnDecisionsWrong : ChangeSpec := { name := "fnDecisions", fn := fun _ => fun
  | [d] => { results := [.lit (.bool false)], args := [d] }
  | _ => none }
def FnDecisionsWrongFalsely : Prop := fnDecisionsRow.holds Try.pinned (OpenSpec.ofChange fnDecisionsWrong)

/- THE SECOND FORM. 'bulk': how many values and letters a reading holds, each counted each time it is reached (what is shared counts as often as it is met; a slice's spare places count too). A statement '..UptoSaid' is the law's where the arguments, and the package variables that the reading takes, are together of bulk at most 1048576: NARROWER than '..Said'. Prove '..Said' where nothing that the law and all that it calls make is longer than what came in: it says more and counts as full. Else prove '..UptoSaid'. A law counts once. -/
mutual
def uptoBulk {H : Type} : DataW H → Nat
  | .lit (.string bytes) => bytes.length + 1
  | .lit _ => 1
  | .nil => 1
  | .ptr d => uptoBulk d + 1
  | .slice elems spare => uptoBulkAll elems + uptoBulkAll spare + 1
  | .agg parts => uptoBulkAll parts + 1
  | .iface _ d => uptoBulk d + 1
  | .map entries => uptoBulkEntries entries + 1
  | .held _ => 1
def uptoBulkAll {H : Type} : List (DataW H) → Nat
  | [] => 0
  | d :: r => uptoBulk d + uptoBulkAll r
def uptoBulkEntries {H : Type} : List (Lit × DataW H) → Nat
  | [] => 0
  | x :: r => uptoBulkEntry x + uptoBulkEntries r
def uptoBulkEntry {H : Type} : Lit × DataW H → Nat
  | (.string bytes, d) => bytes.length + uptoBulk d + 1
  | (_, d) => uptoBulk d + 1
 end
def uptoSmall : (H : Type) → List (DataW H) → Bool := fun _ ds => decide (uptoBulkAll ds ≤ 1048576)
def OpenSpec.upto (s : _root_.Go.ChangeSpec) : _root_.Go.OpenSpec := { _root_.Go.OpenSpec.ofChange s with cond := some uptoSmall }

/-- 'laws.FnExactIsValidDecisions', WHERE WHAT IT READS IS OF BULK AT MOST 1048576: true; the input reads as it did. -/
def fnExactIsValidDecisionsUptoRow : OpenClaim := { program := "ytmolneojjcjooaa", sum := "a3f4eb1e6c93b9aee306db39cff3d97cec3adfb3b21237f49edbc3cae563f442", func := "loop.example/g00907/laws.FnExactIsValidDecisions", spec := "fnExactIsValidDecisions", unfollowed := true, recurses := true, apart := false, narrowed := true }
def FnExactIsValidDecisionsUptoSaid : Prop := fnExactIsValidDecisionsUptoRow.holds Try.pinned (OpenSpec.upto fnExactIsValidDecisionsSpec)

/-- 'laws.FnExactRunDecisions', WHERE WHAT IT READS IS OF BULK AT MOST 1048576: true; the input reads as it did. -/
def fnExactRunDecisionsUptoRow : OpenClaim := { program := "ytmolneojjcjooaa", sum := "a3f4eb1e6c93b9aee306db39cff3d97cec3adfb3b21237f49edbc3cae563f442", func := "loop.example/g00907/laws.FnExactRunDecisions", spec := "fnExactRunDecisions", unfollowed := true, recurses := true, apart := false, narrowed := true }
def FnExactRunDecisionsUptoSaid : Prop := fnExactRunDecisionsUptoRow.holds Try.pinned (OpenSpec.upto fnExactRunDecisionsSpec)

/-- 'laws.FnTop', WHERE WHAT IT READS IS OF BULK AT MOST 1048576: true; the input reads as it did. -/
def fnTopUptoRow : OpenClaim := { program := "ytmolneojjcjooaa", sum := "a3f4eb1e6c93b9aee306db39cff3d97cec3adfb3b21237f49edbc3cae563f442", func := "loop.example/g00907/laws.FnTop", spec := "fnTop", unfollowed := true, recurses := true, apart := false, narrowed := true }
def FnTopUptoSaid : Prop := fnTopUptoRow.holds Try.pinned (OpenSpec.upto fnTopSpec)

/-- 'laws.FnExactDecisionCost', WHERE WHAT IT READS IS OF BULK AT MOST 1048576: true; the input reads as it did. -/
def fnExactDecisionCostUptoRow : OpenClaim := { program := "ytmolneojjcjooaa", sum := "a3f4eb1e6c93b9aee306db39cff3d97cec3adfb3b21237f49edbc3cae563f442", func := "loop.example/g00907/laws.FnExactDecisionCost", spec := "fnExactDecisionCost", unfollowed := true, recurses := true, apart := false, narrowed := true }
def FnExactDecisionCostUptoSaid : Prop := fnExactDecisionCostUptoRow.holds Try.pinned (OpenSpec.upto fnExactDecisionCostSpec)

/-- 'laws.FnExactFirstMistake', WHERE WHAT IT READS IS OF BULK AT MOST 1048576: true; the input reads as it did. -/
def fnExactFirstMistakeUptoRow : OpenClaim := { program := "ytmolneojjcjooaa", sum := "a3f4eb1e6c93b9aee306db39cff3d97cec3adfb3b21237f49edbc3cae563f442", func := "loop.example/g00907/laws.FnExactFirstMistake", spec := "fnExactFirstMistake", unfollowed := true, recurses := true, apart := false, narrowed := true }
def FnExactFirstMistakeUptoSaid : Prop := fnExactFirstMistakeUptoRow.holds Try.pinned (OpenSpec.upto fnExactFirstMistakeSpec)

/-- 'laws.FnTopStream', WHERE WHAT IT READS IS OF BULK AT MOST 1048576: true; the input reads as it did. -/
def fnTopStreamUptoRow : OpenClaim := { program := "ytmolneojjcjooaa", sum := "a3f4eb1e6c93b9aee306db39cff3d97cec3adfb3b21237f49edbc3cae563f442", func := "loop.example/g00907/laws.FnTopStream", spec := "fnTopStream", inPlace := ["slices.overlaps[loop.example/g00907/impl.Record]"], unfollowed := true, recurses := true, apart := false, narrowed := true }
def FnTopStreamUptoSaid : Prop := fnTopStreamUptoRow.holds Try.pinned (OpenSpec.upto fnTopStreamSpec)

/-- 'laws.FnPolyphase', WHERE WHAT IT READS IS OF BULK AT MOST 1048576: true; the input reads as it did. -/
def fnPolyphaseUptoRow : OpenClaim := { program := "ytmolneojjcjooaa", sum := "a3f4eb1e6c93b9aee306db39cff3d97cec3adfb3b21237f49edbc3cae563f442", func := "loop.example/g00907/laws.FnPolyphase", spec := "fnPolyphase", unfollowed := true, recurses := true, apart := false, narrowed := true }
def FnPolyphaseUptoSaid : Prop := fnPolyphaseUptoRow.holds Try.pinned (OpenSpec.upto fnPolyphaseSpec)

/-- 'laws.FnDecisions', WHERE WHAT IT READS IS OF BULK AT MOST 1048576: true; the input reads as it did. -/
def fnDecisionsUptoRow : OpenClaim := { program := "ytmolneojjcjooaa", sum := "a3f4eb1e6c93b9aee306db39cff3d97cec3adfb3b21237f49edbc3cae563f442", func := "loop.example/g00907/laws.FnDecisions", spec := "fnDecisions", unfollowed := true, recurses := true, apart := false, narrowed := true }
def FnDecisionsUptoSaid : Prop := fnDecisionsUptoRow.holds Try.pinned (OpenSpec.upto fnDecisionsSpec)

end Rows
end Go.Proofs.Ytmolneojjcjooaa

/-
  No cell of these rows narrows 'for every input' (looked for: loops, veiled, ifaces, maps, wideKeys, modest, calm, conditions, laid).
  DERIVED. THE GIVEN ROWS OF THIS SEAT. 7 by the template 'for every input the law returns true; each argument reads behind the call as it read before'; 0 by the template 'total and deterministic' (their statements: YtjlebikidoedmaaTotals.lean).
  GIVEN WITH THE SEED: the statements are not yours to turn. If you find one false, say at which input.
  Laid BY PROGRAM, IN A SANDBOX (cutbox-rows.mjs): the forced cells as the released guide's own fill.sh prints them over the translation c842bc02a2a38e16… (all of the seat's roots in one cut). By AI agents, Wed Nov 11 2026. No macro, syntax, notation, axiom, sorry.
-/
import Derived.Test.YtjlebikidoedmaaChecked
import GoSem.Claim
import GoSem.ClaimJoined
import GoSem.ClaimMapViews
import Derived.JoinedTies
import Derived.KernelRfl
namespace Go.Proofs.Ytjlebikidoedmaa
/- THE CELL 'sum', in the pinned program and in every row, IS THE sha256 OF THE DUMP (.gsa) THAT YtjlebikidoedmaaProg.lean LOADS. Nothing in Lean hashes anything: it is a label: what it is worth is what the hold of that sum in a sandbox is worth. -/
noncomputable def Try.pinned : Pinned := { name := "ytjlebikidoedmaa", sum := "c842bc02a2a38e16bc6266e0144ec7d7ac96f3a0596f53c93a24ca23ca46fe8b", checked := Try.checked }
namespace Rows
def none {H : Type} : Left H := { results := [], args := [] }

/-- 'laws.FnExactFingerprint': WHATEVER THE INPUT: true; the input reads as it did. -/
def fnExactFingerprintSpec : ChangeSpec := { name := "fnExactFingerprint", fn := fun _ => fun
  | [d1, d2] => { results := [.lit (.bool true)], args := [d1, d2] }
  | _ => none }
def fnExactFingerprintRow : OpenClaim := { program := "ytjlebikidoedmaa", sum := "c842bc02a2a38e16bc6266e0144ec7d7ac96f3a0596f53c93a24ca23ca46fe8b", func := "loop.example/g00907/laws.FnExactFingerprint", spec := "fnExactFingerprint", unfollowed := true, recurses := true, apart := false }
def FnExactFingerprintSaid : Prop := fnExactFingerprintRow.holds Try.pinned (OpenSpec.ofChange fnExactFingerprintSpec)

/-- ITS FALSE NEIGHBOUR: 'it returns false'. Refute it at one input. -/
def fnExactFingerprintWrong : ChangeSpec := { name := "fnExactFingerprint", fn := fun _ => fun
  | [d1, d2] => { results := [.lit (.bool false)], args := [d1, d2] }
  | _ => none }
def FnExactFingerprintWrongFalsely : Prop := fnExactFingerprintRow.holds Try.pinned (OpenSpec.ofChange fnExactFingerprintWrong)

/-- 'laws.FnExactVerifyRank': WHATEVER THE INPUT: true; the input reads as it did. -/
def fnExactVerifyRankSpec : ChangeSpec := { name := "fnExactVerifyRank", fn := fun _ => fun
  | [d1, d2, d3] => { results := [.lit (.bool true)], args := [d1, d2, d3] }
  | _ => none }
def fnExactVerifyRankRow : OpenClaim := { program := "ytjlebikidoedmaa", sum := "c842bc02a2a38e16bc6266e0144ec7d7ac96f3a0596f53c93a24ca23ca46fe8b", func := "loop.example/g00907/laws.FnExactVerifyRank", spec := "fnExactVerifyRank", unfollowed := true, recurses := true, apart := false }
def FnExactVerifyRankSaid : Prop := fnExactVerifyRankRow.holds Try.pinned (OpenSpec.ofChange fnExactVerifyRankSpec)

/-- ITS FALSE NEIGHBOUR: 'it returns false'. Refute it at one input. -/
def fnExactVerifyRankWrong : ChangeSpec := { name := "fnExactVerifyRank", fn := fun _ => fun
  | [d1, d2, d3] => { results := [.lit (.bool false)], args := [d1, d2, d3] }
  | _ => none }
def FnExactVerifyRankWrongFalsely : Prop := fnExactVerifyRankRow.holds Try.pinned (OpenSpec.ofChange fnExactVerifyRankWrong)

/-- 'laws.FnExactChooseMethod': WHATEVER THE INPUT: true; the input reads as it did. -/
def fnExactChooseMethodSpec : ChangeSpec := { name := "fnExactChooseMethod", fn := fun _ => fun
  | [d1, d2] => { results := [.lit (.bool true)], args := [d1, d2] }
  | _ => none }
def fnExactChooseMethodRow : OpenClaim := { program := "ytjlebikidoedmaa", sum := "c842bc02a2a38e16bc6266e0144ec7d7ac96f3a0596f53c93a24ca23ca46fe8b", func := "loop.example/g00907/laws.FnExactChooseMethod", spec := "fnExactChooseMethod", apart := false }
def FnExactChooseMethodSaid : Prop := fnExactChooseMethodRow.holds Try.pinned (OpenSpec.ofChange fnExactChooseMethodSpec)

/-- ITS FALSE NEIGHBOUR: 'it returns false'. Refute it at one input. -/
def fnExactChooseMethodWrong : ChangeSpec := { name := "fnExactChooseMethod", fn := fun _ => fun
  | [d1, d2] => { results := [.lit (.bool false)], args := [d1, d2] }
  | _ => none }
def FnExactChooseMethodWrongFalsely : Prop := fnExactChooseMethodRow.holds Try.pinned (OpenSpec.ofChange fnExactChooseMethodWrong)

/-- 'laws.FnExactFirstDescent': WHATEVER THE INPUT: true; the input reads as it did. -/
def fnExactFirstDescentSpec : ChangeSpec := { name := "fnExactFirstDescent", fn := fun _ => fun
  | [d] => { results := [.lit (.bool true)], args := [d] }
  | _ => none }
def fnExactFirstDescentRow : OpenClaim := { program := "ytjlebikidoedmaa", sum := "c842bc02a2a38e16bc6266e0144ec7d7ac96f3a0596f53c93a24ca23ca46fe8b", func := "loop.example/g00907/laws.FnExactFirstDescent", spec := "fnExactFirstDescent", unfollowed := true, recurses := true, apart := false }
def FnExactFirstDescentSaid : Prop := fnExactFirstDescentRow.holds Try.pinned (OpenSpec.ofChange fnExactFirstDescentSpec)

/-- ITS FALSE NEIGHBOUR: 'it returns false'. Refute it at one input. -/
def fnExactFirstDescentWrong : ChangeSpec := { name := "fnExactFirstDescent", fn := fun _ => fun
  | [d] => { results := [.lit (.bool false)], args := [d] }
  | _ => none }
def FnExactFirstDescentWrongFalsely : Prop := fnExactFirstDescentRow.holds Try.pinned (OpenSpec.ofChange fnExactFirstDescentWrong)

/-- 'laws.FnNaturalRuns': WHATEVER THE INPUT: true; the input reads as it did. -/
def fnNaturalRunsSpec : ChangeSpec := { name := "fnNaturalRuns", fn := fun _ => fun
  | [d] => { results := [.lit (.bool true)], args := [d] }
  | _ => none }
def fnNaturalRunsRow : OpenClaim := { program := "ytjlebikidoedmaa", sum := "c842bc02a2a38e16bc6266e0144ec7d7ac96f3a0596f53c93a24ca23ca46fe8b", func := "loop.example/g00907/laws.FnNaturalRuns", spec := "fnNaturalRuns", unfollowed := true, recurses := true, apart := false }
def FnNaturalRunsSaid : Prop := fnNaturalRunsRow.holds Try.pinned (OpenSpec.ofChange fnNaturalRunsSpec)

/-- ITS FALSE NEIGHBOUR: 'it returns false'. Refute it at one input. -/
def fnNaturalRunsWrong : ChangeSpec := { name := "fnNaturalRuns", fn := fun _ => fun
  | [d] => { results := [.lit (.bool false)], args := [d] }
  | _ => none }
def FnNaturalRunsWrongFalsely : Prop := fnNaturalRunsRow.holds Try.pinned (OpenSpec.ofChange fnNaturalRunsWrong)

/-- 'laws.FnExactVerifySort': WHATEVER THE INPUT: true; the input reads as it did. -/
def fnExactVerifySortSpec : ChangeSpec := { name := "fnExactVerifySort", fn := fun _ => fun
  | [d1, d2, d3] => { results := [.lit (.bool true)], args := [d1, d2, d3] }
  | _ => none }
def fnExactVerifySortRow : OpenClaim := { program := "ytjlebikidoedmaa", sum := "c842bc02a2a38e16bc6266e0144ec7d7ac96f3a0596f53c93a24ca23ca46fe8b", func := "loop.example/g00907/laws.FnExactVerifySort", spec := "fnExactVerifySort", unfollowed := true, recurses := true, apart := false }
def FnExactVerifySortSaid : Prop := fnExactVerifySortRow.holds Try.pinned (OpenSpec.ofChange fnExactVerifySortSpec)

/-- ITS FALSE NEIGHBOUR: 'it returns false'. Refute it at one input. -/
def fnExactVerifySortWrong : ChangeSpec := { name := "fnExactVerifySort", fn := fun _ => fun
  | [d1, d2, d3] => { results := [.lit (.bool false)], args := [d1, d2, d3] }
  | _ => none }
def FnExactVerifySortWrongFalsely : Prop := fnExactVerifySortRow.holds Try.pinned (OpenSpec.ofChange fnExactVerifySortWrong)

/-- 'laws.FnExactNewConsole': WHATEVER THE INPUT: true; the input reads as it did. -/
def fnExactNewConsoleSpec : ChangeSpec := { name := "fnExactNewConsole", fn := fun _ => fun
  | [d] => { results := [.lit (.bool true)], args := [d] }
  | _ => none }
def fnExactNewConsoleRow : OpenClaim := { program := "ytjlebikidoedmaa", sum := "c842bc02a2a38e16bc6266e0144ec7d7ac96f3a0596f53c93a24ca23ca46fe8b", func := "loop.example/g00907/laws.FnExactNewConsole", spec := "fnExactNewConsole", unfollowed := true, recurses := true, apart := false }
def FnExactNewConsoleSaid : Prop := fnExactNewConsoleRow.holds Try.pinned (OpenSpec.ofChange fnExactNewConsoleSpec)

/-- ITS FALSE NEIGHBOUR: 'it returns false'. Refute it at one input. -/
def fnExactNewConsoleWrong : ChangeSpec := { name := "fnExactNewConsole", fn := fun _ => fun
  | [d] => { results := [.lit (.bool false)], args := [d] }
  | _ => none }
def FnExactNewConsoleWrongFalsely : Prop := fnExactNewConsoleRow.holds Try.pinned (OpenSpec.ofChange fnExactNewConsoleWrong)

/- THE SECOND FORM. 'bulk': how many values and letters a reading holds, each counted each time it is reached (what is shared counts as often as it is met; a slice's spare places count too). A statement '..UptoSaid' is the law's where the arguments, and the package variables that the reading takes, are together of bulk at most 1048576: NARROWER than '..Said'. Prove '..Said' where nothing that the law and all that it calls make is longer than what came in: it says more and counts as full. Else prove '..UptoSaid'. A law counts once. -/
mutual
def uptoBulk {H : Type} : DataW H → Nat
  | .lit (.string bytes) => bytes.length + 1
  | .lit _ => 1
  | .nil => 1
  | .ptr d => uptoBulk d + 1
  | .slice elems spare => uptoBulkAll elems + uptoBulkAll spare + 1
  | .agg parts => uptoBulkAll parts + 1
  | .iface _ d => uptoBulk d + 1
  | .map entries => uptoBulkEntries entries + 1
  | .held _ => 1
def uptoBulkAll {H : Type} : List (DataW H) → Nat
  | [] => 0
  | d :: r => uptoBulk d + uptoBulkAll r
def uptoBulkEntries {H : Type} : List (Lit × DataW H) → Nat
  | [] => 0
  | x :: r => uptoBulkEntry x + uptoBulkEntries r
def uptoBulkEntry {H : Type} : Lit × DataW H → Nat
  | (.string bytes, d) => bytes.length + uptoBulk d + 1
  | (_, d) => uptoBulk d + 1
 end
def uptoSmall : (H : Type) → List (DataW H) → Bool := fun _ ds => decide (uptoBulkAll ds ≤ 1048576)
def OpenSpec.upto (s : _root_.Go.ChangeSpec) : _root_.Go.OpenSpec := { _root_.Go.OpenSpec.ofChange s with cond := some uptoSmall }

/-- 'laws.FnExactFingerprint', WHERE WHAT IT READS IS OF BULK AT MOST 1048576: true; the input reads as it did. -/
def fnExactFingerprintUptoRow : OpenClaim := { program := "ytjlebikidoedmaa", sum := "c842bc02a2a38e16bc6266e0144ec7d7ac96f3a0596f53c93a24ca23ca46fe8b", func := "loop.example/g00907/laws.FnExactFingerprint", spec := "fnExactFingerprint", unfollowed := true, recurses := true, apart := false, narrowed := true }
def FnExactFingerprintUptoSaid : Prop := fnExactFingerprintUptoRow.holds Try.pinned (OpenSpec.upto fnExactFingerprintSpec)

/-- 'laws.FnExactVerifyRank', WHERE WHAT IT READS IS OF BULK AT MOST 1048576: true; the input reads as it did. -/
def fnExactVerifyRankUptoRow : OpenClaim := { program := "ytjlebikidoedmaa", sum := "c842bc02a2a38e16bc6266e0144ec7d7ac96f3a0596f53c93a24ca23ca46fe8b", func := "loop.example/g00907/laws.FnExactVerifyRank", spec := "fnExactVerifyRank", unfollowed := true, recurses := true, apart := false, narrowed := true }
def FnExactVerifyRankUptoSaid : Prop := fnExactVerifyRankUptoRow.holds Try.pinned (OpenSpec.upto fnExactVerifyRankSpec)

/-- 'laws.FnExactChooseMethod', WHERE WHAT IT READS IS OF BULK AT MOST 1048576: true; the input reads as it did. -/
def fnExactChooseMethodUptoRow : OpenClaim := { program := "ytjlebikidoedmaa", sum := "c842bc02a2a38e16bc6266e0144ec7d7ac96f3a0596f53c93a24ca23ca46fe8b", func := "loop.example/g00907/laws.FnExactChooseMethod", spec := "fnExactChooseMethod", apart := false, narrowed := true }
def FnExactChooseMethodUptoSaid : Prop := fnExactChooseMethodUptoRow.holds Try.pinned (OpenSpec.upto fnExactChooseMethodSpec)

/-- 'laws.FnExactFirstDescent', WHERE WHAT IT READS IS OF BULK AT MOST 1048576: true; the input reads as it did. -/
def fnExactFirstDescentUptoRow : OpenClaim := { program := "ytjlebikidoedmaa", sum := "c842bc02a2a38e16bc6266e0144ec7d7ac96f3a0596f53c93a24ca23ca46fe8b", func := "loop.example/g00907/laws.FnExactFirstDescent", spec := "fnExactFirstDescent", unfollowed := true, recurses := true, apart := false, narrowed := true }
def FnExactFirstDescentUptoSaid : Prop := fnExactFirstDescentUptoRow.holds Try.pinned (OpenSpec.upto fnExactFirstDescentSpec)

/-- 'laws.FnNaturalRuns', WHERE WHAT IT READS IS OF BULK AT MOST 1048576: true; the input reads as it did. -/
def fnNaturalRunsUptoRow : OpenClaim := { program := "ytjlebikidoedmaa", sum := "c842bc02a2a38e16bc6266e0144ec7d7ac96f3a0596f53c93a24ca23ca46fe8b", func := "loop.example/g00907/laws.FnNaturalRuns", spec := "fnNaturalRuns", unfollowed := true, recurses := true, apart := false, narrowed := true }
def FnNaturalRunsUptoSaid : Prop := fnNaturalRunsUptoRow.holds Try.pinned (OpenSpec.upto fnNaturalRunsSpec)

/-- 'laws.FnExactVerifySort', WHERE WHAT IT READS IS OF BULK AT MOST 1048576: true; the input reads as it did. -/
def fnExactVerifySortUptoRow : OpenClaim := { program := "ytjlebikidoedmaa", sum := "c842bc02a2a38e16bc6266e0144ec7d7ac96f3a0596f53c93a24ca23ca46fe8b", func := "loop.example/g00907/laws.FnExactVerifySort", spec := "fnExactVerifySort", unfollowed := true, recurses := true, apart := false, narrowed := true }
def FnExactVerifySortUptoSaid : Prop := fnExactVerifySortUptoRow.holds Try.pinned (OpenSpec.upto fnExactVerifySortSpec)

/-- 'laws.FnExactNewConsole', WHERE WHAT IT READS IS OF BULK AT MOST 1048576: true; the input reads as it did. -/
def fnExactNewConsoleUptoRow : OpenClaim := { program := "ytjlebikidoedmaa", sum := "c842bc02a2a38e16bc6266e0144ec7d7ac96f3a0596f53c93a24ca23ca46fe8b", func := "loop.example/g00907/laws.FnExactNewConsole", spec := "fnExactNewConsole", unfollowed := true, recurses := true, apart := false, narrowed := true }
def FnExactNewConsoleUptoSaid : Prop := fnExactNewConsoleUptoRow.holds Try.pinned (OpenSpec.upto fnExactNewConsoleSpec)

end Rows
end Go.Proofs.Ytjlebikidoedmaa

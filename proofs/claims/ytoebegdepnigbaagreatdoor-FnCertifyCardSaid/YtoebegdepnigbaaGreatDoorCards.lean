/-
  DERIVED. GIVEN WITH THE SEED: THE CARDS: each row of YtoebegdepnigbaaGreatDoorRows.lean that lists a variable, with what it lists TIED to the program's text (the seventh form; the later family's looks); each row that meets fmt, with fmt's text TOLD by the authors' own Lean function (tested against real Go, not proved from fmt's source: count such statements apart). THE CARD IS WHAT COUNTS. Prove the row's statement (the work); the ties are given (YtoebegdepnigbaaGreatDoorTie.lean); close each card by the builder's one call (the guide's Derived/Test/ToyasCard.lean, 'card_holds'). Laid BY PROGRAM, IN A SANDBOX (cutbox-door.mjs). By AI agents, Wed Nov 11 2026. No macro, syntax, notation, axiom, sorry.
-/
import Derived.Test.YtoebegdepnigbaaGreatDoorRows
import GoSem.ClaimSeven
namespace Go.Proofs.YtoebegdepnigbaaGreatDoor
namespace Rows

/-- THE TIED CARD OF 'laws.FnCertify'. -/
def fnCertifyCard : Claim7 := { stood := { row := fnCertifyRow, standIns := [], harness := (true, "70fc2a6455911757538b2eeda9051ce1916a88dc218e5fadec91712af7b1ea83"), looks := true }, kinds := [], alts := [], laidByText := true, laidKinds := [.data, .data, .data, .data, .sentinel, .sentinel, .pinned], laidTests := true, laidLooks := .later }
def FnCertifyCardSaid : Prop := Claim7.holds Tryz.pinned (.plain (OpenSpec.ofChange fnCertifySpec)) fnCertifyCard

/-- THE SECOND FORM's CARD OF 'laws.FnCertify'. -/
def fnCertifyUptoCard : Claim7 := { stood := { row := fnCertifyUptoRow, standIns := [], harness := (true, "70fc2a6455911757538b2eeda9051ce1916a88dc218e5fadec91712af7b1ea83"), looks := true }, kinds := [], alts := [], laidByText := true, laidKinds := [.data, .data, .data, .data, .sentinel, .sentinel, .pinned], laidTests := true, laidLooks := .later }
def FnCertifyUptoCardSaid : Prop := Claim7.holds Tryz.pinned (.plain (OpenSpec.upto fnCertifySpec)) fnCertifyUptoCard
end Rows
end Go.Proofs.YtoebegdepnigbaaGreatDoor

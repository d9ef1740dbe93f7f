/-
  DERIVED. GIVEN WITH THE SEED: THE CARDS: each row of YtoebegdepnigbaaDoorRows.lean that lists a variable, with what it lists TIED to the program's text (the seventh form; the later family's looks); each row that meets fmt, with fmt's text TOLD by the authors' own Lean function (tested against real Go, not proved from fmt's source: count such statements apart). THE CARD IS WHAT COUNTS. Prove the row's statement (the work); the ties are given (YtoebegdepnigbaaDoorTie.lean); close each card by the builder's one call (the guide's Derived/Test/ToyasCard.lean, 'card_holds'). Laid BY PROGRAM, IN A SANDBOX (cutbox-door.mjs). By AI agents, Wed Nov 11 2026. No macro, syntax, notation, axiom, sorry.
-/
import Derived.Test.YtoebegdepnigbaaDoorRows
import GoSem.ClaimSeven
namespace Go.Proofs.YtoebegdepnigbaaDoor
namespace Rows

/-- THE TIED CARD OF 'laws.FnExactFormatCertificate'. -/
def fnExactFormatCertificateCard : Claim7 := { stood := { row := fnExactFormatCertificateRow, standIns := [], harness := (true, "820e578dea9e1f48d8f9e3aa6a76224da4c55edbdeed04abc1e92630d5b122cf"), looks := true }, kinds := [], alts := [], laidByText := true, laidKinds := [.data, .data, .data], laidTests := true, laidLooks := .later }
def FnExactFormatCertificateCardSaid : Prop := Claim7.holds Tryd.pinned (.plain (OpenSpec.ofChange fnExactFormatCertificateSpec)) fnExactFormatCertificateCard

/-- THE TIED CARD OF 'laws.FnExactFormatConsole'. -/
def fnExactFormatConsoleCard : Claim7 := { stood := { row := fnExactFormatConsoleRow, standIns := [], harness := (true, "820e578dea9e1f48d8f9e3aa6a76224da4c55edbdeed04abc1e92630d5b122cf"), looks := true }, kinds := [], alts := [], laidByText := true, laidKinds := [.data, .data, .data], laidTests := true, laidLooks := .later }
def FnExactFormatConsoleCardSaid : Prop := Claim7.holds Tryd.pinned (.plain (OpenSpec.ofChange fnExactFormatConsoleSpec)) fnExactFormatConsoleCard

/-- THE TIED CARD OF 'laws.FnExactParseCertificate'. -/
def fnExactParseCertificateCard : Claim7 := { stood := { row := fnExactParseCertificateRow, standIns := [], harness := (true, "820e578dea9e1f48d8f9e3aa6a76224da4c55edbdeed04abc1e92630d5b122cf"), looks := true }, kinds := [], alts := [], laidByText := true, laidKinds := [.data, .data, .data, .data, .sentinel, .sentinel, .pinned], laidTests := true, laidLooks := .later }
def FnExactParseCertificateCardSaid : Prop := Claim7.holds Tryd.pinned (.plain (OpenSpec.ofChange fnExactParseCertificateSpec)) fnExactParseCertificateCard

/-- THE SECOND FORM's CARD OF 'laws.FnExactFormatCertificate'. -/
def fnExactFormatCertificateUptoCard : Claim7 := { stood := { row := fnExactFormatCertificateUptoRow, standIns := [], harness := (true, "820e578dea9e1f48d8f9e3aa6a76224da4c55edbdeed04abc1e92630d5b122cf"), looks := true }, kinds := [], alts := [], laidByText := true, laidKinds := [.data, .data, .data], laidTests := true, laidLooks := .later }
def FnExactFormatCertificateUptoCardSaid : Prop := Claim7.holds Tryd.pinned (.plain (OpenSpec.upto fnExactFormatCertificateSpec)) fnExactFormatCertificateUptoCard

/-- THE SECOND FORM's CARD OF 'laws.FnExactFormatConsole'. -/
def fnExactFormatConsoleUptoCard : Claim7 := { stood := { row := fnExactFormatConsoleUptoRow, standIns := [], harness := (true, "820e578dea9e1f48d8f9e3aa6a76224da4c55edbdeed04abc1e92630d5b122cf"), looks := true }, kinds := [], alts := [], laidByText := true, laidKinds := [.data, .data, .data], laidTests := true, laidLooks := .later }
def FnExactFormatConsoleUptoCardSaid : Prop := Claim7.holds Tryd.pinned (.plain (OpenSpec.upto fnExactFormatConsoleSpec)) fnExactFormatConsoleUptoCard

/-- THE SECOND FORM's CARD OF 'laws.FnExactParseCertificate'. -/
def fnExactParseCertificateUptoCard : Claim7 := { stood := { row := fnExactParseCertificateUptoRow, standIns := [], harness := (true, "820e578dea9e1f48d8f9e3aa6a76224da4c55edbdeed04abc1e92630d5b122cf"), looks := true }, kinds := [], alts := [], laidByText := true, laidKinds := [.data, .data, .data, .data, .sentinel, .sentinel, .pinned], laidTests := true, laidLooks := .later }
def FnExactParseCertificateUptoCardSaid : Prop := Claim7.holds Tryd.pinned (.plain (OpenSpec.upto fnExactParseCertificateSpec)) fnExactParseCertificateUptoCard
end Rows
end Go.Proofs.YtoebegdepnigbaaDoor

/-
  DERIVED. GIVEN WITH THE SEED: THE CARDS: each row of YtpdfjfieimkplaaGreatDoorRows.lean that lists a variable, with what it lists TIED to the program's text (the seventh form; the later family's looks); each row that meets fmt, with fmt's text TOLD by the authors' own Lean function (tested against real Go, not proved from fmt's source: count such statements apart). THE CARD IS WHAT COUNTS. Prove the row's statement (the work); the ties are given (YtpdfjfieimkplaaGreatDoorTie.lean); close each card by the builder's one call (the guide's Derived/Test/ToyasCard.lean, 'card_holds'). Laid BY PROGRAM, IN A SANDBOX (cutbox-door.mjs). By AI agents, Wed Nov 11 2026. No macro, syntax, notation, axiom, sorry.
-/
import Derived.Test.YtpdfjfieimkplaaGreatDoorRows
import GoSem.ClaimSeven
namespace Go.Proofs.YtpdfjfieimkplaaGreatDoor
namespace Rows

/-- THE TIED CARD OF 'langdoclaw46.RedactRight'. -/
def redactRightCard : Claim7 := { stood := { row := redactRightRow, standIns := [], harness := (true, "8d81e4eb62cf99af1436b1e47e96d41fdef9f5ef1853fb4160836ec9692b0578"), looks := false }, kinds := [], alts := [], laidByText := true, laidKinds := [.data, .pinned], laidTests := true, laidLooks := .later }
def RedactRightCardSaid : Prop := Claim7.holds Tryz.pinned (.plain (OpenSpec.ofChange redactRightSpec)) redactRightCard

/-- THE SECOND FORM's CARD OF 'langdoclaw46.RedactRight'. -/
def redactRightUptoCard : Claim7 := { stood := { row := redactRightUptoRow, standIns := [], harness := (true, "8d81e4eb62cf99af1436b1e47e96d41fdef9f5ef1853fb4160836ec9692b0578"), looks := false }, kinds := [], alts := [], laidByText := true, laidKinds := [.data, .pinned], laidTests := true, laidLooks := .later }
def RedactRightUptoCardSaid : Prop := Claim7.holds Tryz.pinned (.plain (OpenSpec.upto redactRightSpec)) redactRightUptoCard
end Rows
end Go.Proofs.YtpdfjfieimkplaaGreatDoor

/-
  DERIVED. GIVEN WITH THE SEED: THE CARDS: each row of YtnflnfmbgghbeaaGreatDoorRows.lean that lists a variable, with what it lists TIED to the program's text (the seventh form; the later family's looks); each row that meets fmt, with fmt's text TOLD by the authors' own Lean function (tested against real Go, not proved from fmt's source: count such statements apart). THE CARD IS WHAT COUNTS. Prove the row's statement (the work); the ties are given (YtnflnfmbgghbeaaGreatDoorTie.lean); close each card by the builder's one call (the guide's Derived/Test/ToyasCard.lean, 'card_holds'). Laid BY PROGRAM, IN A SANDBOX (cutbox-door.mjs). By AI agents, Wed Nov 11 2026. No macro, syntax, notation, axiom, sorry.
-/
import Derived.Test.YtnflnfmbgghbeaaGreatDoorRows
import GoSem.ClaimSeven
namespace Go.Proofs.YtnflnfmbgghbeaaGreatDoor
namespace Rows

/-- THE TIED CARD OF 'langdoclaw13.TiereditDrops'. -/
def tiereditDropsCard : Claim7 := { stood := { row := tiereditDropsRow, standIns := [], harness := (true, "4f618508306bf4df742c7b7c83bd7cd0040ccc821e75a74c8e2784082764343e"), looks := false }, kinds := [], alts := [], laidByText := true, laidKinds := [.data, .pinned], laidTests := true, laidLooks := .later }
def TiereditDropsCardSaid : Prop := Claim7.holds Tryz.pinned (.plain (OpenSpec.ofChange tiereditDropsSpec)) tiereditDropsCard

/-- THE TIED CARD OF 'langdoclaw13.TiereditCuts'. -/
def tiereditCutsCard : Claim7 := { stood := { row := tiereditCutsRow, standIns := [], harness := (true, "4f618508306bf4df742c7b7c83bd7cd0040ccc821e75a74c8e2784082764343e"), looks := false }, kinds := [], alts := [], laidByText := true, laidKinds := [.data, .pinned], laidTests := true, laidLooks := .later }
def TiereditCutsCardSaid : Prop := Claim7.holds Tryz.pinned (.plain (OpenSpec.ofChange tiereditCutsSpec)) tiereditCutsCard

/-- THE TIED CARD OF 'langdoclaw13.TiereditSubtree'. -/
def tiereditSubtreeCard : Claim7 := { stood := { row := tiereditSubtreeRow, standIns := [], harness := (true, "4f618508306bf4df742c7b7c83bd7cd0040ccc821e75a74c8e2784082764343e"), looks := false }, kinds := [], alts := [], laidByText := true, laidKinds := [.data, .pinned], laidTests := true, laidLooks := .later }
def TiereditSubtreeCardSaid : Prop := Claim7.holds Tryz.pinned (.plain (OpenSpec.ofChange tiereditSubtreeSpec)) tiereditSubtreeCard

/-- THE TIED CARD OF 'langdoclaw13.TiereditWrites'. -/
def tiereditWritesCard : Claim7 := { stood := { row := tiereditWritesRow, standIns := [], harness := (true, "4f618508306bf4df742c7b7c83bd7cd0040ccc821e75a74c8e2784082764343e"), looks := false }, kinds := [], alts := [], laidByText := true, laidKinds := [.data, .pinned], laidTests := true, laidLooks := .later }
def TiereditWritesCardSaid : Prop := Claim7.holds Tryz.pinned (.plain (OpenSpec.ofChange tiereditWritesSpec)) tiereditWritesCard

/-- THE TIED CARD OF 'langdoclaw13.TiereditOne'. -/
def tiereditOneCard : Claim7 := { stood := { row := tiereditOneRow, standIns := [], harness := (true, "4f618508306bf4df742c7b7c83bd7cd0040ccc821e75a74c8e2784082764343e"), looks := false }, kinds := [], alts := [], laidByText := true, laidKinds := [.data, .pinned], laidTests := true, laidLooks := .later }
def TiereditOneCardSaid : Prop := Claim7.holds Tryz.pinned (.plain (OpenSpec.ofChange tiereditOneSpec)) tiereditOneCard

/-- THE TIED CARD OF 'langdoclaw13.TiereditAdds'. -/
def tiereditAddsCard : Claim7 := { stood := { row := tiereditAddsRow, standIns := [], harness := (true, "4f618508306bf4df742c7b7c83bd7cd0040ccc821e75a74c8e2784082764343e"), looks := false }, kinds := [], alts := [], laidByText := true, laidKinds := [.data, .pinned], laidTests := true, laidLooks := .later }
def TiereditAddsCardSaid : Prop := Claim7.holds Tryz.pinned (.plain (OpenSpec.ofChange tiereditAddsSpec)) tiereditAddsCard

/-- THE TIED CARD OF 'langdoclaw13.TiereditUndone'. -/
def tiereditUndoneCard : Claim7 := { stood := { row := tiereditUndoneRow, standIns := [], harness := (true, "4f618508306bf4df742c7b7c83bd7cd0040ccc821e75a74c8e2784082764343e"), looks := false }, kinds := [], alts := [], laidByText := true, laidKinds := [.data, .pinned], laidTests := true, laidLooks := .later }
def TiereditUndoneCardSaid : Prop := Claim7.holds Tryz.pinned (.plain (OpenSpec.ofChange tiereditUndoneSpec)) tiereditUndoneCard

/-- THE TIED CARD OF 'langdoclaw13.TiereditGlues'. -/
def tiereditGluesCard : Claim7 := { stood := { row := tiereditGluesRow, standIns := [], harness := (true, "4f618508306bf4df742c7b7c83bd7cd0040ccc821e75a74c8e2784082764343e"), looks := false }, kinds := [], alts := [], laidByText := true, laidKinds := [.data, .pinned], laidTests := true, laidLooks := .later }
def TiereditGluesCardSaid : Prop := Claim7.holds Tryz.pinned (.plain (OpenSpec.ofChange tiereditGluesSpec)) tiereditGluesCard

/-- THE TIED CARD OF 'langdoclaw13.TiereditWhole'. -/
def tiereditWholeCard : Claim7 := { stood := { row := tiereditWholeRow, standIns := [], harness := (true, "4f618508306bf4df742c7b7c83bd7cd0040ccc821e75a74c8e2784082764343e"), looks := false }, kinds := [], alts := [], laidByText := true, laidKinds := [.data, .pinned], laidTests := true, laidLooks := .later }
def TiereditWholeCardSaid : Prop := Claim7.holds Tryz.pinned (.plain (OpenSpec.ofChange tiereditWholeSpec)) tiereditWholeCard

/-- THE TIED CARD OF 'langdoclaw13.TiereditRight'. -/
def tiereditRightCard : Claim7 := { stood := { row := tiereditRightRow, standIns := [], harness := (true, "4f618508306bf4df742c7b7c83bd7cd0040ccc821e75a74c8e2784082764343e"), looks := false }, kinds := [], alts := [], laidByText := true, laidKinds := [.data, .pinned], laidTests := true, laidLooks := .later }
def TiereditRightCardSaid : Prop := Claim7.holds Tryz.pinned (.plain (OpenSpec.ofChange tiereditRightSpec)) tiereditRightCard

/-- THE SECOND FORM's CARD OF 'langdoclaw13.TiereditDrops'. -/
def tiereditDropsUptoCard : Claim7 := { stood := { row := tiereditDropsUptoRow, standIns := [], harness := (true, "4f618508306bf4df742c7b7c83bd7cd0040ccc821e75a74c8e2784082764343e"), looks := false }, kinds := [], alts := [], laidByText := true, laidKinds := [.data, .pinned], laidTests := true, laidLooks := .later }
def TiereditDropsUptoCardSaid : Prop := Claim7.holds Tryz.pinned (.plain (OpenSpec.upto tiereditDropsSpec)) tiereditDropsUptoCard

/-- THE SECOND FORM's CARD OF 'langdoclaw13.TiereditCuts'. -/
def tiereditCutsUptoCard : Claim7 := { stood := { row := tiereditCutsUptoRow, standIns := [], harness := (true, "4f618508306bf4df742c7b7c83bd7cd0040ccc821e75a74c8e2784082764343e"), looks := false }, kinds := [], alts := [], laidByText := true, laidKinds := [.data, .pinned], laidTests := true, laidLooks := .later }
def TiereditCutsUptoCardSaid : Prop := Claim7.holds Tryz.pinned (.plain (OpenSpec.upto tiereditCutsSpec)) tiereditCutsUptoCard

/-- THE SECOND FORM's CARD OF 'langdoclaw13.TiereditSubtree'. -/
def tiereditSubtreeUptoCard : Claim7 := { stood := { row := tiereditSubtreeUptoRow, standIns := [], harness := (true, "4f618508306bf4df742c7b7c83bd7cd0040ccc821e75a74c8e2784082764343e"), looks := false }, kinds := [], alts := [], laidByText := true, laidKinds := [.data, .pinned], laidTests := true, laidLooks := .later }
def TiereditSubtreeUptoCardSaid : Prop := Claim7.holds Tryz.pinned (.plain (OpenSpec.upto tiereditSubtreeSpec)) tiereditSubtreeUptoCard

/-- THE SECOND FORM's CARD OF 'langdoclaw13.TiereditWrites'. -/
def tiereditWritesUptoCard : Claim7 := { stood := { row := tiereditWritesUptoRow, standIns := [], harness := (true, "4f618508306bf4df742c7b7c83bd7cd0040ccc821e75a74c8e2784082764343e"), looks := false }, kinds := [], alts := [], laidByText := true, laidKinds := [.data, .pinned], laidTests := true, laidLooks := .later }
def TiereditWritesUptoCardSaid : Prop := Claim7.holds Tryz.pinned (.plain (OpenSpec.upto tiereditWritesSpec)) tiereditWritesUptoCard

/-- THE SECOND FORM's CARD OF 'langdoclaw13.TiereditOne'. -/
def tiereditOneUptoCard : Claim7 := { stood := { row := tiereditOneUptoRow, standIns := [], harness := (true, "4f618508306bf4df742c7b7c83bd7cd0040ccc821e75a74c8e2784082764343e"), looks := false }, kinds := [], alts := [], laidByText := true, laidKinds := [.data, .pinned], laidTests := true, laidLooks := .later }
def TiereditOneUptoCardSaid : Prop := Claim7.holds Tryz.pinned (.plain (OpenSpec.upto tiereditOneSpec)) tiereditOneUptoCard

/-- THE SECOND FORM's CARD OF 'langdoclaw13.TiereditAdds'. -/
def tiereditAddsUptoCard : Claim7 := { stood := { row := tiereditAddsUptoRow, standIns := [], harness := (true, "4f618508306bf4df742c7b7c83bd7cd0040ccc821e75a74c8e2784082764343e"), looks := false }, kinds := [], alts := [], laidByText := true, laidKinds := [.data, .pinned], laidTests := true, laidLooks := .later }
def TiereditAddsUptoCardSaid : Prop := Claim7.holds Tryz.pinned (.plain (OpenSpec.upto tiereditAddsSpec)) tiereditAddsUptoCard

/-- THE SECOND FORM's CARD OF 'langdoclaw13.TiereditUndone'. -/
def tiereditUndoneUptoCard : Claim7 := { stood := { row := tiereditUndoneUptoRow, standIns := [], harness := (true, "4f618508306bf4df742c7b7c83bd7cd0040ccc821e75a74c8e2784082764343e"), looks := false }, kinds := [], alts := [], laidByText := true, laidKinds := [.data, .pinned], laidTests := true, laidLooks := .later }
def TiereditUndoneUptoCardSaid : Prop := Claim7.holds Tryz.pinned (.plain (OpenSpec.upto tiereditUndoneSpec)) tiereditUndoneUptoCard

/-- THE SECOND FORM's CARD OF 'langdoclaw13.TiereditGlues'. -/
def tiereditGluesUptoCard : Claim7 := { stood := { row := tiereditGluesUptoRow, standIns := [], harness := (true, "4f618508306bf4df742c7b7c83bd7cd0040ccc821e75a74c8e2784082764343e"), looks := false }, kinds := [], alts := [], laidByText := true, laidKinds := [.data, .pinned], laidTests := true, laidLooks := .later }
def TiereditGluesUptoCardSaid : Prop := Claim7.holds Tryz.pinned (.plain (OpenSpec.upto tiereditGluesSpec)) tiereditGluesUptoCard

/-- THE SECOND FORM's CARD OF 'langdoclaw13.TiereditWhole'. -/
def tiereditWholeUptoCard : Claim7 := { stood := { row := tiereditWholeUptoRow, standIns := [], harness := (true, "4f618508306bf4df742c7b7c83bd7cd0040ccc821e75a74c8e2784082764343e"), looks := false }, kinds := [], alts := [], laidByText := true, laidKinds := [.data, .pinned], laidTests := true, laidLooks := .later }
def TiereditWholeUptoCardSaid : Prop := Claim7.holds Tryz.pinned (.plain (OpenSpec.upto tiereditWholeSpec)) tiereditWholeUptoCard

/-- THE SECOND FORM's CARD OF 'langdoclaw13.TiereditRight'. -/
def tiereditRightUptoCard : Claim7 := { stood := { row := tiereditRightUptoRow, standIns := [], harness := (true, "4f618508306bf4df742c7b7c83bd7cd0040ccc821e75a74c8e2784082764343e"), looks := false }, kinds := [], alts := [], laidByText := true, laidKinds := [.data, .pinned], laidTests := true, laidLooks := .later }
def TiereditRightUptoCardSaid : Prop := Claim7.holds Tryz.pinned (.plain (OpenSpec.upto tiereditRightSpec)) tiereditRightUptoCard
end Rows
end Go.Proofs.YtnflnfmbgghbeaaGreatDoor

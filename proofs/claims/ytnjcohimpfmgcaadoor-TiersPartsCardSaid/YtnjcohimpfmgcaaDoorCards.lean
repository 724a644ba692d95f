/-
  DERIVED. GIVEN WITH THE SEED: THE CARDS: each row of YtnjcohimpfmgcaaDoorRows.lean that lists a variable, with what it lists TIED to the program's text (the seventh form; the later family's looks); each row that meets fmt, with fmt's text TOLD by the authors' own Lean function (tested against real Go, not proved from fmt's source: count such statements apart). THE CARD IS WHAT COUNTS. Prove the row's statement (the work); the ties are given (YtnjcohimpfmgcaaDoorTie.lean); close each card by the builder's one call (the guide's Derived/Test/ToyasCard.lean, 'card_holds'). Laid BY PROGRAM, IN A SANDBOX (cutbox-door.mjs). By AI agents, Wed Nov 11 2026. No macro, syntax, notation, axiom, sorry.
-/
import Derived.Test.YtnjcohimpfmgcaaDoorRows
import GoSem.ClaimSeven
namespace Go.Proofs.YtnjcohimpfmgcaaDoor
namespace Rows

/-- THE TIED CARD OF 'langdoclaw12.TiersTexts'. -/
def tiersTextsCard : Claim7 := { stood := { row := tiersTextsRow, standIns := [], harness := (true, "5d26ac5ff1923762a82b6366ed188d5e77269d7ca9269ddfb3e6a28dab7faf53"), looks := false }, kinds := [], alts := [], laidByText := true, laidKinds := [.data, .pinned], laidTests := true, laidLooks := .later }
def TiersTextsCardSaid : Prop := Claim7.holds Tryd.pinned (.plain (OpenSpec.ofChange tiersTextsSpec)) tiersTextsCard

/-- THE TIED CARD OF 'langdoclaw12.TiersChecks'. -/
def tiersChecksCard : Claim7 := { stood := { row := tiersChecksRow, standIns := [], harness := (true, "5d26ac5ff1923762a82b6366ed188d5e77269d7ca9269ddfb3e6a28dab7faf53"), looks := false }, kinds := [], alts := [], laidByText := true, laidKinds := [.data, .pinned], laidTests := true, laidLooks := .later }
def TiersChecksCardSaid : Prop := Claim7.holds Tryd.pinned (.plain (OpenSpec.ofChange tiersChecksSpec)) tiersChecksCard

/-- THE TIED CARD OF 'langdoclaw12.TiersGets'. -/
def tiersGetsCard : Claim7 := { stood := { row := tiersGetsRow, standIns := [], harness := (true, "5d26ac5ff1923762a82b6366ed188d5e77269d7ca9269ddfb3e6a28dab7faf53"), looks := false }, kinds := [], alts := [], laidByText := true, laidKinds := [.data, .pinned], laidTests := true, laidLooks := .later }
def TiersGetsCardSaid : Prop := Claim7.holds Tryd.pinned (.plain (OpenSpec.ofChange tiersGetsSpec)) tiersGetsCard

/-- THE TIED CARD OF 'langdoclaw12.TiersOrders'. -/
def tiersOrdersCard : Claim7 := { stood := { row := tiersOrdersRow, standIns := [], harness := (true, "5d26ac5ff1923762a82b6366ed188d5e77269d7ca9269ddfb3e6a28dab7faf53"), looks := false }, kinds := [], alts := [], laidByText := true, laidKinds := [.data, .pinned], laidTests := true, laidLooks := .later }
def TiersOrdersCardSaid : Prop := Claim7.holds Tryd.pinned (.plain (OpenSpec.ofChange tiersOrdersSpec)) tiersOrdersCard

/-- THE TIED CARD OF 'langdoclaw12.TiersSame'. -/
def tiersSameCard : Claim7 := { stood := { row := tiersSameRow, standIns := [], harness := (true, "5d26ac5ff1923762a82b6366ed188d5e77269d7ca9269ddfb3e6a28dab7faf53"), looks := false }, kinds := [], alts := [], laidByText := true, laidKinds := [.data, .pinned], laidTests := true, laidLooks := .later }
def TiersSameCardSaid : Prop := Claim7.holds Tryd.pinned (.plain (OpenSpec.ofChange tiersSameSpec)) tiersSameCard

/-- THE TIED CARD OF 'langdoclaw12.TiersApart'. -/
def tiersApartCard : Claim7 := { stood := { row := tiersApartRow, standIns := [], harness := (true, "5d26ac5ff1923762a82b6366ed188d5e77269d7ca9269ddfb3e6a28dab7faf53"), looks := false }, kinds := [], alts := [], laidByText := true, laidKinds := [.data, .pinned], laidTests := true, laidLooks := .later }
def TiersApartCardSaid : Prop := Claim7.holds Tryd.pinned (.plain (OpenSpec.ofChange tiersApartSpec)) tiersApartCard

/-- THE TIED CARD OF 'langdoclaw12.TiersOnce'. -/
def tiersOnceCard : Claim7 := { stood := { row := tiersOnceRow, standIns := [], harness := (true, "5d26ac5ff1923762a82b6366ed188d5e77269d7ca9269ddfb3e6a28dab7faf53"), looks := false }, kinds := [], alts := [], laidByText := true, laidKinds := [.data, .pinned], laidTests := true, laidLooks := .later }
def TiersOnceCardSaid : Prop := Claim7.holds Tryd.pinned (.plain (OpenSpec.ofChange tiersOnceSpec)) tiersOnceCard

/-- THE TIED CARD OF 'langdoclaw12.TiersParts'. -/
def tiersPartsCard : Claim7 := { stood := { row := tiersPartsRow, standIns := [], harness := (true, "5d26ac5ff1923762a82b6366ed188d5e77269d7ca9269ddfb3e6a28dab7faf53"), looks := false }, kinds := [], alts := [], laidByText := true, laidKinds := [.data, .pinned], laidTests := true, laidLooks := .later }
def TiersPartsCardSaid : Prop := Claim7.holds Tryd.pinned (.plain (OpenSpec.ofChange tiersPartsSpec)) tiersPartsCard

/-- THE TIED CARD OF 'langdoclaw12.TiersLeaves'. -/
def tiersLeavesCard : Claim7 := { stood := { row := tiersLeavesRow, standIns := [], harness := (true, "5d26ac5ff1923762a82b6366ed188d5e77269d7ca9269ddfb3e6a28dab7faf53"), looks := false }, kinds := [], alts := [], laidByText := true, laidKinds := [.data, .pinned], laidTests := true, laidLooks := .later }
def TiersLeavesCardSaid : Prop := Claim7.holds Tryd.pinned (.plain (OpenSpec.ofChange tiersLeavesSpec)) tiersLeavesCard

/-- THE TIED CARD OF 'langdoclaw12.TiersLimits'. -/
def tiersLimitsCard : Claim7 := { stood := { row := tiersLimitsRow, standIns := [], harness := (true, "5d26ac5ff1923762a82b6366ed188d5e77269d7ca9269ddfb3e6a28dab7faf53"), looks := false }, kinds := [], alts := [], laidByText := true, laidKinds := [.data, .pinned], laidTests := true, laidLooks := .later }
def TiersLimitsCardSaid : Prop := Claim7.holds Tryd.pinned (.plain (OpenSpec.ofChange tiersLimitsSpec)) tiersLimitsCard

/-- THE SECOND FORM's CARD OF 'langdoclaw12.TiersTexts'. -/
def tiersTextsUptoCard : Claim7 := { stood := { row := tiersTextsUptoRow, standIns := [], harness := (true, "5d26ac5ff1923762a82b6366ed188d5e77269d7ca9269ddfb3e6a28dab7faf53"), looks := false }, kinds := [], alts := [], laidByText := true, laidKinds := [.data, .pinned], laidTests := true, laidLooks := .later }
def TiersTextsUptoCardSaid : Prop := Claim7.holds Tryd.pinned (.plain (OpenSpec.upto tiersTextsSpec)) tiersTextsUptoCard

/-- THE SECOND FORM's CARD OF 'langdoclaw12.TiersChecks'. -/
def tiersChecksUptoCard : Claim7 := { stood := { row := tiersChecksUptoRow, standIns := [], harness := (true, "5d26ac5ff1923762a82b6366ed188d5e77269d7ca9269ddfb3e6a28dab7faf53"), looks := false }, kinds := [], alts := [], laidByText := true, laidKinds := [.data, .pinned], laidTests := true, laidLooks := .later }
def TiersChecksUptoCardSaid : Prop := Claim7.holds Tryd.pinned (.plain (OpenSpec.upto tiersChecksSpec)) tiersChecksUptoCard

/-- THE SECOND FORM's CARD OF 'langdoclaw12.TiersGets'. -/
def tiersGetsUptoCard : Claim7 := { stood := { row := tiersGetsUptoRow, standIns := [], harness := (true, "5d26ac5ff1923762a82b6366ed188d5e77269d7ca9269ddfb3e6a28dab7faf53"), looks := false }, kinds := [], alts := [], laidByText := true, laidKinds := [.data, .pinned], laidTests := true, laidLooks := .later }
def TiersGetsUptoCardSaid : Prop := Claim7.holds Tryd.pinned (.plain (OpenSpec.upto tiersGetsSpec)) tiersGetsUptoCard

/-- THE SECOND FORM's CARD OF 'langdoclaw12.TiersOrders'. -/
def tiersOrdersUptoCard : Claim7 := { stood := { row := tiersOrdersUptoRow, standIns := [], harness := (true, "5d26ac5ff1923762a82b6366ed188d5e77269d7ca9269ddfb3e6a28dab7faf53"), looks := false }, kinds := [], alts := [], laidByText := true, laidKinds := [.data, .pinned], laidTests := true, laidLooks := .later }
def TiersOrdersUptoCardSaid : Prop := Claim7.holds Tryd.pinned (.plain (OpenSpec.upto tiersOrdersSpec)) tiersOrdersUptoCard

/-- THE SECOND FORM's CARD OF 'langdoclaw12.TiersSame'. -/
def tiersSameUptoCard : Claim7 := { stood := { row := tiersSameUptoRow, standIns := [], harness := (true, "5d26ac5ff1923762a82b6366ed188d5e77269d7ca9269ddfb3e6a28dab7faf53"), looks := false }, kinds := [], alts := [], laidByText := true, laidKinds := [.data, .pinned], laidTests := true, laidLooks := .later }
def TiersSameUptoCardSaid : Prop := Claim7.holds Tryd.pinned (.plain (OpenSpec.upto tiersSameSpec)) tiersSameUptoCard

/-- THE SECOND FORM's CARD OF 'langdoclaw12.TiersApart'. -/
def tiersApartUptoCard : Claim7 := { stood := { row := tiersApartUptoRow, standIns := [], harness := (true, "5d26ac5ff1923762a82b6366ed188d5e77269d7ca9269ddfb3e6a28dab7faf53"), looks := false }, kinds := [], alts := [], laidByText := true, laidKinds := [.data, .pinned], laidTests := true, laidLooks := .later }
def TiersApartUptoCardSaid : Prop := Claim7.holds Tryd.pinned (.plain (OpenSpec.upto tiersApartSpec)) tiersApartUptoCard

/-- THE SECOND FORM's CARD OF 'langdoclaw12.TiersOnce'. -/
def tiersOnceUptoCard : Claim7 := { stood := { row := tiersOnceUptoRow, standIns := [], harness := (true, "5d26ac5ff1923762a82b6366ed188d5e77269d7ca9269ddfb3e6a28dab7faf53"), looks := false }, kinds := [], alts := [], laidByText := true, laidKinds := [.data, .pinned], laidTests := true, laidLooks := .later }
def TiersOnceUptoCardSaid : Prop := Claim7.holds Tryd.pinned (.plain (OpenSpec.upto tiersOnceSpec)) tiersOnceUptoCard

/-- THE SECOND FORM's CARD OF 'langdoclaw12.TiersParts'. -/
def tiersPartsUptoCard : Claim7 := { stood := { row := tiersPartsUptoRow, standIns := [], harness := (true, "5d26ac5ff1923762a82b6366ed188d5e77269d7ca9269ddfb3e6a28dab7faf53"), looks := false }, kinds := [], alts := [], laidByText := true, laidKinds := [.data, .pinned], laidTests := true, laidLooks := .later }
def TiersPartsUptoCardSaid : Prop := Claim7.holds Tryd.pinned (.plain (OpenSpec.upto tiersPartsSpec)) tiersPartsUptoCard

/-- THE SECOND FORM's CARD OF 'langdoclaw12.TiersLeaves'. -/
def tiersLeavesUptoCard : Claim7 := { stood := { row := tiersLeavesUptoRow, standIns := [], harness := (true, "5d26ac5ff1923762a82b6366ed188d5e77269d7ca9269ddfb3e6a28dab7faf53"), looks := false }, kinds := [], alts := [], laidByText := true, laidKinds := [.data, .pinned], laidTests := true, laidLooks := .later }
def TiersLeavesUptoCardSaid : Prop := Claim7.holds Tryd.pinned (.plain (OpenSpec.upto tiersLeavesSpec)) tiersLeavesUptoCard

/-- THE SECOND FORM's CARD OF 'langdoclaw12.TiersLimits'. -/
def tiersLimitsUptoCard : Claim7 := { stood := { row := tiersLimitsUptoRow, standIns := [], harness := (true, "5d26ac5ff1923762a82b6366ed188d5e77269d7ca9269ddfb3e6a28dab7faf53"), looks := false }, kinds := [], alts := [], laidByText := true, laidKinds := [.data, .pinned], laidTests := true, laidLooks := .later }
def TiersLimitsUptoCardSaid : Prop := Claim7.holds Tryd.pinned (.plain (OpenSpec.upto tiersLimitsSpec)) tiersLimitsUptoCard
end Rows
end Go.Proofs.YtnjcohimpfmgcaaDoor

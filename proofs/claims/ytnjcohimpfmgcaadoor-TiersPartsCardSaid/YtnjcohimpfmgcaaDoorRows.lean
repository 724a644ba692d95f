/-
  NARROWER THAN 'FOR EVERY INPUT', by the rows' own cells (each row's printed sentence says how): TiersTexts: laid · TiersChecks: laid · TiersGets: laid · TiersOrders: laid · TiersSame: laid · TiersApart: laid · TiersOnce: laid · TiersParts: laid · TiersLeaves: laid · TiersLimits: laid.
  DERIVED. THE GIVEN ROWS OF THIS SEAT. 10 by the template 'for every input the law returns true; each argument reads behind the call as it read before'; 0 by the template 'total and deterministic' (their statements: YtnjcohimpfmgcaaDoorTotals.lean).
  GIVEN WITH THE SEED: the statements are not yours to turn. If you find one false, say at which input.
  Laid BY PROGRAM, IN A SANDBOX (cutbox-rows.mjs): the forced cells as the released guide's own fill.sh prints them over the translation 330d3c7de4bbca0c… (all of the seat's roots in one cut). By AI agents, Wed Nov 11 2026. No macro, syntax, notation, axiom, sorry.
-/
import Derived.Test.YtnjcohimpfmgcaaDoorChecked
import GoSem.PinnedTables
import GoSem.Claim
import GoSem.ClaimJoined
import GoSem.ClaimMapViews
import Derived.JoinedTies
import Derived.KernelRfl
namespace Go.Proofs.YtnjcohimpfmgcaaDoor
/- THE CELL 'sum', in the pinned program and in every row, IS THE sha256 OF THE DUMP (.gsa) THAT YtnjcohimpfmgcaaDoorProg.lean LOADS. Nothing in Lean hashes anything: it is a label: what it is worth is what the hold of that sum in a sandbox is worth. -/
noncomputable def Tryd.pinned : Pinned := { name := "ytnjcohimpfmgcaadoor", sum := "330d3c7de4bbca0c4b713e787bd1c6cb69550be72208b056cc7f35c012a44c85", checked := Tryd.checked }
namespace Rows
def none {H : Type} : Left H := { results := [], args := [] }

/- WHAT THE LISTED PACKAGE-LEVEL VARIABLES READ AS WHEN THE CALL BEGINS. Each datum BY PROGRAM (the guide's laid-datum.mjs) off the statement by which the dump's own 'gosem.cut.vars' lays the variable. In a bare row this is a premise. The card (YtnjcohimpfmgcaaDoorCards.lean) ties it to the program's text. -/
def laid_unicode_utf8_acceptRanges {H : Type} : DataW H := .agg [.agg [.lit (.int .u8 128), .lit (.int .u8 191)], .agg [.lit (.int .u8 160), .lit (.int .u8 191)], .agg [.lit (.int .u8 128), .lit (.int .u8 159)], .agg [.lit (.int .u8 144), .lit (.int .u8 191)], .agg [.lit (.int .u8 128), .lit (.int .u8 143)], .agg [.lit (.int .u8 0), .lit (.int .u8 0)], .agg [.lit (.int .u8 0), .lit (.int .u8 0)], .agg [.lit (.int .u8 0), .lit (.int .u8 0)], .agg [.lit (.int .u8 0), .lit (.int .u8 0)], .agg [.lit (.int .u8 0), .lit (.int .u8 0)], .agg [.lit (.int .u8 0), .lit (.int .u8 0)], .agg [.lit (.int .u8 0), .lit (.int .u8 0)], .agg [.lit (.int .u8 0), .lit (.int .u8 0)], .agg [.lit (.int .u8 0), .lit (.int .u8 0)], .agg [.lit (.int .u8 0), .lit (.int .u8 0)], .agg [.lit (.int .u8 0), .lit (.int .u8 0)]]
/-- One of Go's own tables, pinned by name: the form's constant. -/
def laid_unicode_utf8_first : DataW Unit := Go.Pinned.utf8First

/-- 'langdoclaw12.TiersTexts': WHATEVER THE INPUT: true; the input reads as it did. -/
def tiersTextsSpec : ChangeSpec := { name := "tiersTexts", fn := fun _ => fun
  | [d] => { results := [.lit (.bool true)], args := [d] }
  | _ => none }
def tiersTextsRow : OpenClaim := { program := "ytnjcohimpfmgcaadoor", sum := "330d3c7de4bbca0c4b713e787bd1c6cb69550be72208b056cc7f35c012a44c85", func := "langdoc/langdoclaw12.TiersTexts", spec := "tiersTexts", unfollowed := true, recurses := true, named := ["unicode/utf8.first", "unicode/utf8.acceptRanges"], apart := false, laid := [("unicode/utf8.acceptRanges", laid_unicode_utf8_acceptRanges), ("unicode/utf8.first", laid_unicode_utf8_first)] }
def TiersTextsSaid : Prop := tiersTextsRow.holds Tryd.pinned (OpenSpec.ofChange tiersTextsSpec)

/-- ITS FALSE NEIGHBOUR: 'it returns false'. Refute it at one input. -/
def tiersTextsWrong : ChangeSpec := { name := "tiersTexts", fn := fun _ => fun
  | [d] => { results := [.lit (.bool false)], args := [d] }
  | _ => none }
def TiersTextsWrongFalsely : Prop := tiersTextsRow.holds Tryd.pinned (OpenSpec.ofChange tiersTextsWrong)

/-- 'langdoclaw12.TiersChecks': WHATEVER THE INPUT: true; the input reads as it did. -/
def tiersChecksSpec : ChangeSpec := { name := "tiersChecks", fn := fun _ => fun
  | [d] => { results := [.lit (.bool true)], args := [d] }
  | _ => none }
def tiersChecksRow : OpenClaim := { program := "ytnjcohimpfmgcaadoor", sum := "330d3c7de4bbca0c4b713e787bd1c6cb69550be72208b056cc7f35c012a44c85", func := "langdoc/langdoclaw12.TiersChecks", spec := "tiersChecks", unfollowed := true, recurses := true, named := ["unicode/utf8.first", "unicode/utf8.acceptRanges"], apart := false, laid := [("unicode/utf8.acceptRanges", laid_unicode_utf8_acceptRanges), ("unicode/utf8.first", laid_unicode_utf8_first)] }
def TiersChecksSaid : Prop := tiersChecksRow.holds Tryd.pinned (OpenSpec.ofChange tiersChecksSpec)

/-- ITS FALSE NEIGHBOUR: 'it returns false'. Refute it at one input. -/
def tiersChecksWrong : ChangeSpec := { name := "tiersChecks", fn := fun _ => fun
  | [d] => { results := [.lit (.bool false)], args := [d] }
  | _ => none }
def TiersChecksWrongFalsely : Prop := tiersChecksRow.holds Tryd.pinned (OpenSpec.ofChange tiersChecksWrong)

/-- 'langdoclaw12.TiersGets': WHATEVER THE INPUT: true; the input reads as it did. -/
def tiersGetsSpec : ChangeSpec := { name := "tiersGets", fn := fun _ => fun
  | [d1, d2] => { results := [.lit (.bool true)], args := [d1, d2] }
  | _ => none }
def tiersGetsRow : OpenClaim := { program := "ytnjcohimpfmgcaadoor", sum := "330d3c7de4bbca0c4b713e787bd1c6cb69550be72208b056cc7f35c012a44c85", func := "langdoc/langdoclaw12.TiersGets", spec := "tiersGets", unfollowed := true, recurses := true, named := ["unicode/utf8.first", "unicode/utf8.acceptRanges"], apart := false, laid := [("unicode/utf8.acceptRanges", laid_unicode_utf8_acceptRanges), ("unicode/utf8.first", laid_unicode_utf8_first)] }
def TiersGetsSaid : Prop := tiersGetsRow.holds Tryd.pinned (OpenSpec.ofChange tiersGetsSpec)

/-- ITS FALSE NEIGHBOUR: 'it returns false'. Refute it at one input. -/
def tiersGetsWrong : ChangeSpec := { name := "tiersGets", fn := fun _ => fun
  | [d1, d2] => { results := [.lit (.bool false)], args := [d1, d2] }
  | _ => none }
def TiersGetsWrongFalsely : Prop := tiersGetsRow.holds Tryd.pinned (OpenSpec.ofChange tiersGetsWrong)

/-- 'langdoclaw12.TiersOrders': WHATEVER THE INPUT: true; the input reads as it did. -/
def tiersOrdersSpec : ChangeSpec := { name := "tiersOrders", fn := fun _ => fun
  | [d1, d2, d3] => { results := [.lit (.bool true)], args := [d1, d2, d3] }
  | _ => none }
def tiersOrdersRow : OpenClaim := { program := "ytnjcohimpfmgcaadoor", sum := "330d3c7de4bbca0c4b713e787bd1c6cb69550be72208b056cc7f35c012a44c85", func := "langdoc/langdoclaw12.TiersOrders", spec := "tiersOrders", unfollowed := true, recurses := true, named := ["unicode/utf8.first", "unicode/utf8.acceptRanges"], apart := false, laid := [("unicode/utf8.acceptRanges", laid_unicode_utf8_acceptRanges), ("unicode/utf8.first", laid_unicode_utf8_first)] }
def TiersOrdersSaid : Prop := tiersOrdersRow.holds Tryd.pinned (OpenSpec.ofChange tiersOrdersSpec)

/-- ITS FALSE NEIGHBOUR: 'it returns false'. Refute it at one input. -/
def tiersOrdersWrong : ChangeSpec := { name := "tiersOrders", fn := fun _ => fun
  | [d1, d2, d3] => { results := [.lit (.bool false)], args := [d1, d2, d3] }
  | _ => none }
def TiersOrdersWrongFalsely : Prop := tiersOrdersRow.holds Tryd.pinned (OpenSpec.ofChange tiersOrdersWrong)

/-- 'langdoclaw12.TiersSame': WHATEVER THE INPUT: true; the input reads as it did. -/
def tiersSameSpec : ChangeSpec := { name := "tiersSame", fn := fun _ => fun
  | [d1, d2] => { results := [.lit (.bool true)], args := [d1, d2] }
  | _ => none }
def tiersSameRow : OpenClaim := { program := "ytnjcohimpfmgcaadoor", sum := "330d3c7de4bbca0c4b713e787bd1c6cb69550be72208b056cc7f35c012a44c85", func := "langdoc/langdoclaw12.TiersSame", spec := "tiersSame", unfollowed := true, recurses := true, named := ["unicode/utf8.first", "unicode/utf8.acceptRanges"], apart := false, laid := [("unicode/utf8.acceptRanges", laid_unicode_utf8_acceptRanges), ("unicode/utf8.first", laid_unicode_utf8_first)] }
def TiersSameSaid : Prop := tiersSameRow.holds Tryd.pinned (OpenSpec.ofChange tiersSameSpec)

/-- ITS FALSE NEIGHBOUR: 'it returns false'. Refute it at one input. -/
def tiersSameWrong : ChangeSpec := { name := "tiersSame", fn := fun _ => fun
  | [d1, d2] => { results := [.lit (.bool false)], args := [d1, d2] }
  | _ => none }
def TiersSameWrongFalsely : Prop := tiersSameRow.holds Tryd.pinned (OpenSpec.ofChange tiersSameWrong)

/-- 'langdoclaw12.TiersApart': WHATEVER THE INPUT: true; the input reads as it did. -/
def tiersApartSpec : ChangeSpec := { name := "tiersApart", fn := fun _ => fun
  | [d] => { results := [.lit (.bool true)], args := [d] }
  | _ => none }
def tiersApartRow : OpenClaim := { program := "ytnjcohimpfmgcaadoor", sum := "330d3c7de4bbca0c4b713e787bd1c6cb69550be72208b056cc7f35c012a44c85", func := "langdoc/langdoclaw12.TiersApart", spec := "tiersApart", unfollowed := true, recurses := true, named := ["unicode/utf8.first", "unicode/utf8.acceptRanges"], apart := false, laid := [("unicode/utf8.acceptRanges", laid_unicode_utf8_acceptRanges), ("unicode/utf8.first", laid_unicode_utf8_first)] }
def TiersApartSaid : Prop := tiersApartRow.holds Tryd.pinned (OpenSpec.ofChange tiersApartSpec)

/-- ITS FALSE NEIGHBOUR: 'it returns false'. Refute it at one input. -/
def tiersApartWrong : ChangeSpec := { name := "tiersApart", fn := fun _ => fun
  | [d] => { results := [.lit (.bool false)], args := [d] }
  | _ => none }
def TiersApartWrongFalsely : Prop := tiersApartRow.holds Tryd.pinned (OpenSpec.ofChange tiersApartWrong)

/-- 'langdoclaw12.TiersOnce': WHATEVER THE INPUT: true; the input reads as it did. -/
def tiersOnceSpec : ChangeSpec := { name := "tiersOnce", fn := fun _ => fun
  | [d] => { results := [.lit (.bool true)], args := [d] }
  | _ => none }
def tiersOnceRow : OpenClaim := { program := "ytnjcohimpfmgcaadoor", sum := "330d3c7de4bbca0c4b713e787bd1c6cb69550be72208b056cc7f35c012a44c85", func := "langdoc/langdoclaw12.TiersOnce", spec := "tiersOnce", unfollowed := true, recurses := true, named := ["unicode/utf8.first", "unicode/utf8.acceptRanges"], apart := false, laid := [("unicode/utf8.acceptRanges", laid_unicode_utf8_acceptRanges), ("unicode/utf8.first", laid_unicode_utf8_first)] }
def TiersOnceSaid : Prop := tiersOnceRow.holds Tryd.pinned (OpenSpec.ofChange tiersOnceSpec)

/-- ITS FALSE NEIGHBOUR: 'it returns false'. Refute it at one input. -/
def tiersOnceWrong : ChangeSpec := { name := "tiersOnce", fn := fun _ => fun
  | [d] => { results := [.lit (.bool false)], args := [d] }
  | _ => none }
def TiersOnceWrongFalsely : Prop := tiersOnceRow.holds Tryd.pinned (OpenSpec.ofChange tiersOnceWrong)

/-- 'langdoclaw12.TiersParts': WHATEVER THE INPUT: true; the input reads as it did. -/
def tiersPartsSpec : ChangeSpec := { name := "tiersParts", fn := fun _ => fun
  | [d] => { results := [.lit (.bool true)], args := [d] }
  | _ => none }
def tiersPartsRow : OpenClaim := { program := "ytnjcohimpfmgcaadoor", sum := "330d3c7de4bbca0c4b713e787bd1c6cb69550be72208b056cc7f35c012a44c85", func := "langdoc/langdoclaw12.TiersParts", spec := "tiersParts", unfollowed := true, recurses := true, named := ["unicode/utf8.first", "unicode/utf8.acceptRanges"], apart := false, laid := [("unicode/utf8.acceptRanges", laid_unicode_utf8_acceptRanges), ("unicode/utf8.first", laid_unicode_utf8_first)] }
def TiersPartsSaid : Prop := tiersPartsRow.holds Tryd.pinned (OpenSpec.ofChange tiersPartsSpec)

/-- ITS FALSE NEIGHBOUR: 'it returns false'. Refute it at one input. -/
def tiersPartsWrong : ChangeSpec := { name := "tiersParts", fn := fun _ => fun
  | [d] => { results := [.lit (.bool false)], args := [d] }
  | _ => none }
def TiersPartsWrongFalsely : Prop := tiersPartsRow.holds Tryd.pinned (OpenSpec.ofChange tiersPartsWrong)

/-- 'langdoclaw12.TiersLeaves': WHATEVER THE INPUT: true; the input reads as it did. -/
def tiersLeavesSpec : ChangeSpec := { name := "tiersLeaves", fn := fun _ => fun
  | [d1, d2] => { results := [.lit (.bool true)], args := [d1, d2] }
  | _ => none }
def tiersLeavesRow : OpenClaim := { program := "ytnjcohimpfmgcaadoor", sum := "330d3c7de4bbca0c4b713e787bd1c6cb69550be72208b056cc7f35c012a44c85", func := "langdoc/langdoclaw12.TiersLeaves", spec := "tiersLeaves", unfollowed := true, recurses := true, named := ["unicode/utf8.first", "unicode/utf8.acceptRanges"], apart := false, laid := [("unicode/utf8.acceptRanges", laid_unicode_utf8_acceptRanges), ("unicode/utf8.first", laid_unicode_utf8_first)] }
def TiersLeavesSaid : Prop := tiersLeavesRow.holds Tryd.pinned (OpenSpec.ofChange tiersLeavesSpec)

/-- ITS FALSE NEIGHBOUR: 'it returns false'. Refute it at one input. -/
def tiersLeavesWrong : ChangeSpec := { name := "tiersLeaves", fn := fun _ => fun
  | [d1, d2] => { results := [.lit (.bool false)], args := [d1, d2] }
  | _ => none }
def TiersLeavesWrongFalsely : Prop := tiersLeavesRow.holds Tryd.pinned (OpenSpec.ofChange tiersLeavesWrong)

/-- 'langdoclaw12.TiersLimits': WHATEVER THE INPUT: true; the input reads as it did. -/
def tiersLimitsSpec : ChangeSpec := { name := "tiersLimits", fn := fun _ => fun
  | [d1, d2] => { results := [.lit (.bool true)], args := [d1, d2] }
  | _ => none }
def tiersLimitsRow : OpenClaim := { program := "ytnjcohimpfmgcaadoor", sum := "330d3c7de4bbca0c4b713e787bd1c6cb69550be72208b056cc7f35c012a44c85", func := "langdoc/langdoclaw12.TiersLimits", spec := "tiersLimits", unfollowed := true, recurses := true, named := ["unicode/utf8.first", "unicode/utf8.acceptRanges"], apart := false, laid := [("unicode/utf8.acceptRanges", laid_unicode_utf8_acceptRanges), ("unicode/utf8.first", laid_unicode_utf8_first)] }
def TiersLimitsSaid : Prop := tiersLimitsRow.holds Tryd.pinned (OpenSpec.ofChange tiersLimitsSpec)

/-- ITS FALSE NEIGHBOUR: 'it returns false'. Refute it at one input. -/
def tiersLimitsWrong : ChangeSpec := { name := "tiersLimits", fn := fun _ => fun
  | [d1, d2] => { results := [.lit (.bool false)], args := [d1, d2] }
  | _ => none }
def TiersLimitsWrongFalsely : Prop := tiersLimitsRow.holds Tryd.pinned (OpenSpec.ofChange tiersLimitsWrong)

/- THE SECOND FORM. 'bulk': how many values and letters a reading holds, each counted each time it is reached (what is shared counts as often as it is met; a slice's spare places count too). A statement '..UptoSaid' is the law's where the arguments, and the package variables that the reading takes, are together of bulk at most 1048576: NARROWER than '..Said'. Prove '..Said' where nothing that the law and all that it calls make is longer than what came in: it says more and counts as full. Else prove '..UptoSaid'. A law counts once. -/
mutual
def uptoBulk {H : Type} : DataW H → Nat
  | .lit (.string bytes) => bytes.length + 1
  | .lit _ => 1
  | .nil => 1
  | .ptr d => uptoBulk d + 1
  | .slice elems spare => uptoBulkAll elems + uptoBulkAll spare + 1
  | .agg parts => uptoBulkAll parts + 1
  | .iface _ d => uptoBulk d + 1
  | .map entries => uptoBulkEntries entries + 1
  | .held _ => 1
def uptoBulkAll {H : Type} : List (DataW H) → Nat
  | [] => 0
  | d :: r => uptoBulk d + uptoBulkAll r
def uptoBulkEntries {H : Type} : List (Lit × DataW H) → Nat
  | [] => 0
  | x :: r => uptoBulkEntry x + uptoBulkEntries r
def uptoBulkEntry {H : Type} : Lit × DataW H → Nat
  | (.string bytes, d) => bytes.length + uptoBulk d + 1
  | (_, d) => uptoBulk d + 1
 end
def uptoSmall : (H : Type) → List (DataW H) → Bool := fun _ ds => decide (uptoBulkAll ds ≤ 1048576)
def OpenSpec.upto (s : _root_.Go.ChangeSpec) : _root_.Go.OpenSpec := { _root_.Go.OpenSpec.ofChange s with cond := some uptoSmall }

/-- 'langdoclaw12.TiersTexts', WHERE WHAT IT READS IS OF BULK AT MOST 1048576: true; the input reads as it did. -/
def tiersTextsUptoRow : OpenClaim := { program := "ytnjcohimpfmgcaadoor", sum := "330d3c7de4bbca0c4b713e787bd1c6cb69550be72208b056cc7f35c012a44c85", func := "langdoc/langdoclaw12.TiersTexts", spec := "tiersTexts", unfollowed := true, recurses := true, named := ["unicode/utf8.first", "unicode/utf8.acceptRanges"], apart := false, laid := [("unicode/utf8.acceptRanges", laid_unicode_utf8_acceptRanges), ("unicode/utf8.first", laid_unicode_utf8_first)], narrowed := true }
def TiersTextsUptoSaid : Prop := tiersTextsUptoRow.holds Tryd.pinned (OpenSpec.upto tiersTextsSpec)

/-- 'langdoclaw12.TiersChecks', WHERE WHAT IT READS IS OF BULK AT MOST 1048576: true; the input reads as it did. -/
def tiersChecksUptoRow : OpenClaim := { program := "ytnjcohimpfmgcaadoor", sum := "330d3c7de4bbca0c4b713e787bd1c6cb69550be72208b056cc7f35c012a44c85", func := "langdoc/langdoclaw12.TiersChecks", spec := "tiersChecks", unfollowed := true, recurses := true, named := ["unicode/utf8.first", "unicode/utf8.acceptRanges"], apart := false, laid := [("unicode/utf8.acceptRanges", laid_unicode_utf8_acceptRanges), ("unicode/utf8.first", laid_unicode_utf8_first)], narrowed := true }
def TiersChecksUptoSaid : Prop := tiersChecksUptoRow.holds Tryd.pinned (OpenSpec.upto tiersChecksSpec)

/-- 'langdoclaw12.TiersGets', WHERE WHAT IT READS IS OF BULK AT MOST 1048576: true; the input reads as it did. -/
def tiersGetsUptoRow : OpenClaim := { program := "ytnjcohimpfmgcaadoor", sum := "330d3c7de4bbca0c4b713e787bd1c6cb69550be72208b056cc7f35c012a44c85", func := "langdoc/langdoclaw12.TiersGets", spec := "tiersGets", unfollowed := true, recurses := true, named := ["unicode/utf8.first", "unicode/utf8.acceptRanges"], apart := false, laid := [("unicode/utf8.acceptRanges", laid_unicode_utf8_acceptRanges), ("unicode/utf8.first", laid_unicode_utf8_first)], narrowed := true }
def TiersGetsUptoSaid : Prop := tiersGetsUptoRow.holds Tryd.pinned (OpenSpec.upto tiersGetsSpec)

/-- 'langdoclaw12.TiersOrders', WHERE WHAT IT READS IS OF BULK AT MOST 1048576: true; the input reads as it did. -/
def tiersOrdersUptoRow : OpenClaim := { program := "ytnjcohimpfmgcaadoor", sum := "330d3c7de4bbca0c4b713e787bd1c6cb69550be72208b056cc7f35c012a44c85", func := "langdoc/langdoclaw12.TiersOrders", spec := "tiersOrders", unfollowed := true, recurses := true, named := ["unicode/utf8.first", "unicode/utf8.acceptRanges"], apart := false, laid := [("unicode/utf8.acceptRanges", laid_unicode_utf8_acceptRanges), ("unicode/utf8.first", laid_unicode_utf8_first)], narrowed := true }
def TiersOrdersUptoSaid : Prop := tiersOrdersUptoRow.holds Tryd.pinned (OpenSpec.upto tiersOrdersSpec)

/-- 'langdoclaw12.TiersSame', WHERE WHAT IT READS IS OF BULK AT MOST 1048576: true; the input reads as it did. -/
def tiersSameUptoRow : OpenClaim := { program := "ytnjcohimpfmgcaadoor", sum := "330d3c7de4bbca0c4b713e787bd1c6cb69550be72208b056cc7f35c012a44c85", func := "langdoc/langdoclaw12.TiersSame", spec := "tiersSame", unfollowed := true, recurses := true, named := ["unicode/utf8.first", "unicode/utf8.acceptRanges"], apart := false, laid := [("unicode/utf8.acceptRanges", laid_unicode_utf8_acceptRanges), ("unicode/utf8.first", laid_unicode_utf8_first)], narrowed := true }
def TiersSameUptoSaid : Prop := tiersSameUptoRow.holds Tryd.pinned (OpenSpec.upto tiersSameSpec)

/-- 'langdoclaw12.TiersApart', WHERE WHAT IT READS IS OF BULK AT MOST 1048576: true; the input reads as it did. -/
def tiersApartUptoRow : OpenClaim := { program := "ytnjcohimpfmgcaadoor", sum := "330d3c7de4bbca0c4b713e787bd1c6cb69550be72208b056cc7f35c012a44c85", func := "langdoc/langdoclaw12.TiersApart", spec := "tiersApart", unfollowed := true, recurses := true, named := ["unicode/utf8.first", "unicode/utf8.acceptRanges"], apart := false, laid := [("unicode/utf8.acceptRanges", laid_unicode_utf8_acceptRanges), ("unicode/utf8.first", laid_unicode_utf8_first)], narrowed := true }
def TiersApartUptoSaid : Prop := tiersApartUptoRow.holds Tryd.pinned (OpenSpec.upto tiersApartSpec)

/-- 'langdoclaw12.TiersOnce', WHERE WHAT IT READS IS OF BULK AT MOST 1048576: true; the input reads as it did. -/
def tiersOnceUptoRow : OpenClaim := { program := "ytnjcohimpfmgcaadoor", sum := "330d3c7de4bbca0c4b713e787bd1c6cb69550be72208b056cc7f35c012a44c85", func := "langdoc/langdoclaw12.TiersOnce", spec := "tiersOnce", unfollowed := true, recurses := true, named := ["unicode/utf8.first", "unicode/utf8.acceptRanges"], apart := false, laid := [("unicode/utf8.acceptRanges", laid_unicode_utf8_acceptRanges), ("unicode/utf8.first", laid_unicode_utf8_first)], narrowed := true }
def TiersOnceUptoSaid : Prop := tiersOnceUptoRow.holds Tryd.pinned (OpenSpec.upto tiersOnceSpec)

/-- 'langdoclaw12.TiersParts', WHERE WHAT IT READS IS OF BULK AT MOST 1048576: true; the input reads as it did. -/
def tiersPartsUptoRow : OpenClaim := { program := "ytnjcohimpfmgcaadoor", sum := "330d3c7de4bbca0c4b713e787bd1c6cb69550be72208b056cc7f35c012a44c85", func := "langdoc/langdoclaw12.TiersParts", spec := "tiersParts", unfollowed := true, recurses := true, named := ["unicode/utf8.first", "unicode/utf8.acceptRanges"], apart := false, laid := [("unicode/utf8.acceptRanges", laid_unicode_utf8_acceptRanges), ("unicode/utf8.first", laid_unicode_utf8_first)], narrowed := true }
def TiersPartsUptoSaid : Prop := tiersPartsUptoRow.holds Tryd.pinned (OpenSpec.upto tiersPartsSpec)

/-- 'langdoclaw12.TiersLeaves', WHERE WHAT IT READS IS OF BULK AT MOST 1048576: true; the input reads as it did. -/
def tiersLeavesUptoRow : OpenClaim := { program := "ytnjcohimpfmgcaadoor", sum := "330d3c7de4bbca0c4b713e787bd1c6cb69550be72208b056cc7f35c012a44c85", func := "langdoc/langdoclaw12.TiersLeaves", spec := "tiersLeaves", unfollowed := true, recurses := true, named := ["unicode/utf8.first", "unicode/utf8.acceptRanges"], apart := false, laid := [("unicode/utf8.acceptRanges", laid_unicode_utf8_acceptRanges), ("unicode/utf8.first", laid_unicode_utf8_first)], narrowed := true }
def TiersLeavesUptoSaid : Prop := tiersLeavesUptoRow.holds Tryd.pinned (OpenSpec.upto tiersLeavesSpec)

/-- 'langdoclaw12.TiersLimits', WHERE WHAT IT READS IS OF BULK AT MOST 1048576: true; the input reads as it did. -/
def tiersLimitsUptoRow : OpenClaim := { program := "ytnjcohimpfmgcaadoor", sum := "330d3c7de4bbca0c4b713e787bd1c6cb69550be72208b056cc7f35c012a44c85", func := "langdoc/langdoclaw12.TiersLimits", spec := "tiersLimits", unfollowed := true, recurses := true, named := ["unicode/utf8.first", "unicode/utf8.acceptRanges"], apart := false, laid := [("unicode/utf8.acceptRanges", laid_unicode_utf8_acceptRanges), ("unicode/utf8.first", laid_unicode_utf8_first)], narrowed := true }
def TiersLimitsUptoSaid : Prop := tiersLimitsUptoRow.holds Tryd.pinned (OpenSpec.upto tiersLimitsSpec)

end Rows
end Go.Proofs.YtnjcohimpfmgcaaDoor

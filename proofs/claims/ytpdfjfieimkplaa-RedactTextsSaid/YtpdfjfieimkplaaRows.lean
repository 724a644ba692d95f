/-
  No cell of these rows narrows 'for every input' (looked for: loops, veiled, ifaces, maps, wideKeys, modest, calm, conditions, laid).
  DERIVED. THE GIVEN ROWS OF THIS SEAT. 6 by the template 'for every input the law returns true; each argument reads behind the call as it read before'; 0 by the template 'total and deterministic' (their statements: YtpdfjfieimkplaaTotals.lean).
  GIVEN WITH THE SEED: the statements are not yours to turn. If you find one false, say at which input.
  Laid BY PROGRAM, IN A SANDBOX (cutbox-rows.mjs): the forced cells as the released guide's own fill.sh prints them over the translation 60289e5cd0b0b5d7… (all of the seat's roots in one cut). By AI agents, Wed Nov 11 2026. No macro, syntax, notation, axiom, sorry.
-/
import Derived.Test.YtpdfjfieimkplaaChecked
import GoSem.Claim
import GoSem.ClaimJoined
import GoSem.ClaimMapViews
import Derived.JoinedTies
import Derived.KernelRfl
namespace Go.Proofs.Ytpdfjfieimkplaa
/- THE CELL 'sum', in the pinned program and in every row, IS THE sha256 OF THE DUMP (.gsa) THAT YtpdfjfieimkplaaProg.lean LOADS. Nothing in Lean hashes anything: it is a label: what it is worth is what the hold of that sum in a sandbox is worth. -/
noncomputable def Try.pinned : Pinned := { name := "ytpdfjfieimkplaa", sum := "60289e5cd0b0b5d7619cb77d3b8c3d3035094aac957a9a67ab0144a6afa09a08", checked := Try.checked }
namespace Rows
def none {H : Type} : Left H := { results := [], args := [] }

/-- 'langdoclaw46.RedactSeen': WHATEVER THE INPUT: true; the input reads as it did. -/
def redactSeenSpec : ChangeSpec := { name := "redactSeen", fn := fun _ => fun
  | [d1, d2, d3] => { results := [.lit (.bool true)], args := [d1, d2, d3] }
  | _ => none }
def redactSeenRow : OpenClaim := { program := "ytpdfjfieimkplaa", sum := "60289e5cd0b0b5d7619cb77d3b8c3d3035094aac957a9a67ab0144a6afa09a08", func := "langdoc/langdoclaw46.RedactSeen", spec := "redactSeen", unfollowed := true, recurses := true, apart := false }
def RedactSeenSaid : Prop := redactSeenRow.holds Try.pinned (OpenSpec.ofChange redactSeenSpec)

/-- ITS FALSE NEIGHBOUR: 'it returns false'. Refute it at one input. -/
def redactSeenWrong : ChangeSpec := { name := "redactSeen", fn := fun _ => fun
  | [d1, d2, d3] => { results := [.lit (.bool false)], args := [d1, d2, d3] }
  | _ => none }
def RedactSeenWrongFalsely : Prop := redactSeenRow.holds Try.pinned (OpenSpec.ofChange redactSeenWrong)

/-- 'langdoclaw46.RedactView': WHATEVER THE INPUT: true; the input reads as it did. -/
def redactViewSpec : ChangeSpec := { name := "redactView", fn := fun _ => fun
  | [d1, d2] => { results := [.lit (.bool true)], args := [d1, d2] }
  | _ => none }
def redactViewRow : OpenClaim := { program := "ytpdfjfieimkplaa", sum := "60289e5cd0b0b5d7619cb77d3b8c3d3035094aac957a9a67ab0144a6afa09a08", func := "langdoc/langdoclaw46.RedactView", spec := "redactView", unfollowed := true, recurses := true, apart := false }
def RedactViewSaid : Prop := redactViewRow.holds Try.pinned (OpenSpec.ofChange redactViewSpec)

/-- ITS FALSE NEIGHBOUR: 'it returns false'. Refute it at one input. -/
def redactViewWrong : ChangeSpec := { name := "redactView", fn := fun _ => fun
  | [d1, d2] => { results := [.lit (.bool false)], args := [d1, d2] }
  | _ => none }
def RedactViewWrongFalsely : Prop := redactViewRow.holds Try.pinned (OpenSpec.ofChange redactViewWrong)

/-- 'langdoclaw46.RedactClean': WHATEVER THE INPUT: true; the input reads as it did. -/
def redactCleanSpec : ChangeSpec := { name := "redactClean", fn := fun _ => fun
  | [d1, d2] => { results := [.lit (.bool true)], args := [d1, d2] }
  | _ => none }
def redactCleanRow : OpenClaim := { program := "ytpdfjfieimkplaa", sum := "60289e5cd0b0b5d7619cb77d3b8c3d3035094aac957a9a67ab0144a6afa09a08", func := "langdoc/langdoclaw46.RedactClean", spec := "redactClean", unfollowed := true, recurses := true, apart := false }
def RedactCleanSaid : Prop := redactCleanRow.holds Try.pinned (OpenSpec.ofChange redactCleanSpec)

/-- ITS FALSE NEIGHBOUR: 'it returns false'. Refute it at one input. -/
def redactCleanWrong : ChangeSpec := { name := "redactClean", fn := fun _ => fun
  | [d1, d2] => { results := [.lit (.bool false)], args := [d1, d2] }
  | _ => none }
def RedactCleanWrongFalsely : Prop := redactCleanRow.holds Try.pinned (OpenSpec.ofChange redactCleanWrong)

/-- 'langdoclaw46.RedactLess': WHATEVER THE INPUT: true; the input reads as it did. -/
def redactLessSpec : ChangeSpec := { name := "redactLess", fn := fun _ => fun
  | [d1, d2, d3] => { results := [.lit (.bool true)], args := [d1, d2, d3] }
  | _ => none }
def redactLessRow : OpenClaim := { program := "ytpdfjfieimkplaa", sum := "60289e5cd0b0b5d7619cb77d3b8c3d3035094aac957a9a67ab0144a6afa09a08", func := "langdoc/langdoclaw46.RedactLess", spec := "redactLess", unfollowed := true, recurses := true, apart := false }
def RedactLessSaid : Prop := redactLessRow.holds Try.pinned (OpenSpec.ofChange redactLessSpec)

/-- ITS FALSE NEIGHBOUR: 'it returns false'. Refute it at one input. -/
def redactLessWrong : ChangeSpec := { name := "redactLess", fn := fun _ => fun
  | [d1, d2, d3] => { results := [.lit (.bool false)], args := [d1, d2, d3] }
  | _ => none }
def RedactLessWrongFalsely : Prop := redactLessRow.holds Try.pinned (OpenSpec.ofChange redactLessWrong)

/-- 'langdoclaw46.RedactAll': WHATEVER THE INPUT: true; the input reads as it did. -/
def redactAllSpec : ChangeSpec := { name := "redactAll", fn := fun _ => fun
  | [d1, d2] => { results := [.lit (.bool true)], args := [d1, d2] }
  | _ => none }
def redactAllRow : OpenClaim := { program := "ytpdfjfieimkplaa", sum := "60289e5cd0b0b5d7619cb77d3b8c3d3035094aac957a9a67ab0144a6afa09a08", func := "langdoc/langdoclaw46.RedactAll", spec := "redactAll", unfollowed := true, recurses := true, apart := false }
def RedactAllSaid : Prop := redactAllRow.holds Try.pinned (OpenSpec.ofChange redactAllSpec)

/-- ITS FALSE NEIGHBOUR: 'it returns false'. Refute it at one input. -/
def redactAllWrong : ChangeSpec := { name := "redactAll", fn := fun _ => fun
  | [d1, d2] => { results := [.lit (.bool false)], args := [d1, d2] }
  | _ => none }
def RedactAllWrongFalsely : Prop := redactAllRow.holds Try.pinned (OpenSpec.ofChange redactAllWrong)

/-- 'langdoclaw46.RedactTexts': WHATEVER THE INPUT: true; the input reads as it did. -/
def redactTextsSpec : ChangeSpec := { name := "redactTexts", fn := fun _ => fun
  | [d1, d2] => { results := [.lit (.bool true)], args := [d1, d2] }
  | _ => none }
def redactTextsRow : OpenClaim := { program := "ytpdfjfieimkplaa", sum := "60289e5cd0b0b5d7619cb77d3b8c3d3035094aac957a9a67ab0144a6afa09a08", func := "langdoc/langdoclaw46.RedactTexts", spec := "redactTexts", unfollowed := true, recurses := true, apart := false }
def RedactTextsSaid : Prop := redactTextsRow.holds Try.pinned (OpenSpec.ofChange redactTextsSpec)

/-- ITS FALSE NEIGHBOUR: 'it returns false'. Refute it at one input. -/
def redactTextsWrong : ChangeSpec := { name := "redactTexts", fn := fun _ => fun
  | [d1, d2] => { results := [.lit (.bool false)], args := [d1, d2] }
  | _ => none }
def RedactTextsWrongFalsely : Prop := redactTextsRow.holds Try.pinned (OpenSpec.ofChange redactTextsWrong)

/- THE SECOND FORM. 'bulk': how many values and letters a reading holds, each counted each time it is reached (what is shared counts as often as it is met; a slice's spare places count too). A statement '..UptoSaid' is the law's where the arguments, and the package variables that the reading takes, are together of bulk at most 1048576: NARROWER than '..Said'. Prove '..Said' where nothing that the law and all that it calls make is longer than what came in: it says more and counts as full. Else prove '..UptoSaid'. A law counts once. -/
mutual
def uptoBulk {H : Type} : DataW H → Nat
  | .lit (.string bytes) => bytes.length + 1
  | .lit _ => 1
  | .nil => 1
  | .ptr d => uptoBulk d + 1
  | .slice elems spare => uptoBulkAll elems + uptoBulkAll spare + 1
  | .agg parts => uptoBulkAll parts + 1
  | .iface _ d => uptoBulk d + 1
  | .map entries => uptoBulkEntries entries + 1
  | .held _ => 1
def uptoBulkAll {H : Type} : List (DataW H) → Nat
  | [] => 0
  | d :: r => uptoBulk d + uptoBulkAll r
def uptoBulkEntries {H : Type} : List (Lit × DataW H) → Nat
  | [] => 0
  | x :: r => uptoBulkEntry x + uptoBulkEntries r
def uptoBulkEntry {H : Type} : Lit × DataW H → Nat
  | (.string bytes, d) => bytes.length + uptoBulk d + 1
  | (_, d) => uptoBulk d + 1
 end
def uptoSmall : (H : Type) → List (DataW H) → Bool := fun _ ds => decide (uptoBulkAll ds ≤ 1048576)
def OpenSpec.upto (s : _root_.Go.ChangeSpec) : _root_.Go.OpenSpec := { _root_.Go.OpenSpec.ofChange s with cond := some uptoSmall }

/-- 'langdoclaw46.RedactSeen', WHERE WHAT IT READS IS OF BULK AT MOST 1048576: true; the input reads as it did. -/
def redactSeenUptoRow : OpenClaim := { program := "ytpdfjfieimkplaa", sum := "60289e5cd0b0b5d7619cb77d3b8c3d3035094aac957a9a67ab0144a6afa09a08", func := "langdoc/langdoclaw46.RedactSeen", spec := "redactSeen", unfollowed := true, recurses := true, apart := false, narrowed := true }
def RedactSeenUptoSaid : Prop := redactSeenUptoRow.holds Try.pinned (OpenSpec.upto redactSeenSpec)

/-- 'langdoclaw46.RedactView', WHERE WHAT IT READS IS OF BULK AT MOST 1048576: true; the input reads as it did. -/
def redactViewUptoRow : OpenClaim := { program := "ytpdfjfieimkplaa", sum := "60289e5cd0b0b5d7619cb77d3b8c3d3035094aac957a9a67ab0144a6afa09a08", func := "langdoc/langdoclaw46.RedactView", spec := "redactView", unfollowed := true, recurses := true, apart := false, narrowed := true }
def RedactViewUptoSaid : Prop := redactViewUptoRow.holds Try.pinned (OpenSpec.upto redactViewSpec)

/-- 'langdoclaw46.RedactClean', WHERE WHAT IT READS IS OF BULK AT MOST 1048576: true; the input reads as it did. -/
def redactCleanUptoRow : OpenClaim := { program := "ytpdfjfieimkplaa", sum := "60289e5cd0b0b5d7619cb77d3b8c3d3035094aac957a9a67ab0144a6afa09a08", func := "langdoc/langdoclaw46.RedactClean", spec := "redactClean", unfollowed := true, recurses := true, apart := false, narrowed := true }
def RedactCleanUptoSaid : Prop := redactCleanUptoRow.holds Try.pinned (OpenSpec.upto redactCleanSpec)

/-- 'langdoclaw46.RedactLess', WHERE WHAT IT READS IS OF BULK AT MOST 1048576: true; the input reads as it did. -/
def redactLessUptoRow : OpenClaim := { program := "ytpdfjfieimkplaa", sum := "60289e5cd0b0b5d7619cb77d3b8c3d3035094aac957a9a67ab0144a6afa09a08", func := "langdoc/langdoclaw46.RedactLess", spec := "redactLess", unfollowed := true, recurses := true, apart := false, narrowed := true }
def RedactLessUptoSaid : Prop := redactLessUptoRow.holds Try.pinned (OpenSpec.upto redactLessSpec)

/-- 'langdoclaw46.RedactAll', WHERE WHAT IT READS IS OF BULK AT MOST 1048576: true; the input reads as it did. -/
def redactAllUptoRow : OpenClaim := { program := "ytpdfjfieimkplaa", sum := "60289e5cd0b0b5d7619cb77d3b8c3d3035094aac957a9a67ab0144a6afa09a08", func := "langdoc/langdoclaw46.RedactAll", spec := "redactAll", unfollowed := true, recurses := true, apart := false, narrowed := true }
def RedactAllUptoSaid : Prop := redactAllUptoRow.holds Try.pinned (OpenSpec.upto redactAllSpec)

/-- 'langdoclaw46.RedactTexts', WHERE WHAT IT READS IS OF BULK AT MOST 1048576: true; the input reads as it did. -/
def redactTextsUptoRow : OpenClaim := { program := "ytpdfjfieimkplaa", sum := "60289e5cd0b0b5d7619cb77d3b8c3d3035094aac957a9a67ab0144a6afa09a08", func := "langdoc/langdoclaw46.RedactTexts", spec := "redactTexts", unfollowed := true, recurses := true, apart := false, narrowed := true }
def RedactTextsUptoSaid : Prop := redactTextsUptoRow.holds Try.pinned (OpenSpec.upto redactTextsSpec)

end Rows
end Go.Proofs.Ytpdfjfieimkplaa

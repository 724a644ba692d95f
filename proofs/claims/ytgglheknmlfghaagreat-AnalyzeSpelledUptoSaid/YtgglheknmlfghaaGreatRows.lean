/-
  No cell of these rows narrows 'for every input' (looked for: loops, veiled, ifaces, maps, wideKeys, modest, calm, conditions, laid).
  DERIVED. THE GIVEN ROWS OF THIS SEAT. 10 by the template 'for every input the law returns true; each argument reads behind the call as it read before'; 0 by the template 'total and deterministic' (their statements: YtgglheknmlfghaaGreatTotals.lean).
  GIVEN WITH THE SEED: the statements are not yours to turn. If you find one false, say at which input.
  Laid BY PROGRAM, IN A SANDBOX (cutbox-rows.mjs): the forced cells as the released guide's own fill.sh prints them over the translation f3ff21a3e752f002… (all of the seat's roots in one cut). By AI agents, Wed Nov 11 2026. No macro, syntax, notation, axiom, sorry.
-/
import Derived.Test.YtgglheknmlfghaaGreatChecked
import GoSem.Claim
import GoSem.ClaimJoined
import GoSem.ClaimMapViews
import Derived.JoinedTies
import Derived.KernelRfl
namespace Go.Proofs.YtgglheknmlfghaaGreat
/- THE CELL 'sum', in the pinned program and in every row, IS THE sha256 OF THE DUMP (.gsa) THAT YtgglheknmlfghaaGreatProg.lean LOADS. Nothing in Lean hashes anything: it is a label: what it is worth is what the hold of that sum in a sandbox is worth. -/
noncomputable def Tryz.pinned : Pinned := { name := "ytgglheknmlfghaagreat", sum := "f3ff21a3e752f002734ca1d4855b343af4239f8cb1a73dec473d12a4593e4710", checked := Tryz.checked }
namespace Rows
def none {H : Type} : Left H := { results := [], args := [] }

/-- 'langdoclaw30.AnalyzeLicensed': WHATEVER THE INPUT: true; the input reads as it did. -/
def analyzeLicensedSpec : ChangeSpec := { name := "analyzeLicensed", fn := fun _ => fun
  | [d1, d2, d3] => { results := [.lit (.bool true)], args := [d1, d2, d3] }
  | _ => none }
def analyzeLicensedRow : OpenClaim := { program := "ytgglheknmlfghaagreat", sum := "f3ff21a3e752f002734ca1d4855b343af4239f8cb1a73dec473d12a4593e4710", func := "langdoc/langdoclaw30.AnalyzeLicensed", spec := "analyzeLicensed", unfollowed := true, recurses := true, apart := false }
def AnalyzeLicensedSaid : Prop := analyzeLicensedRow.holds Tryz.pinned (OpenSpec.ofChange analyzeLicensedSpec)

/-- ITS FALSE NEIGHBOUR: 'it returns false'. Refute it at one input. -/
def analyzeLicensedWrong : ChangeSpec := { name := "analyzeLicensed", fn := fun _ => fun
  | [d1, d2, d3] => { results := [.lit (.bool false)], args := [d1, d2, d3] }
  | _ => none }
def AnalyzeLicensedWrongFalsely : Prop := analyzeLicensedRow.holds Tryz.pinned (OpenSpec.ofChange analyzeLicensedWrong)

/-- 'langdoclaw30.AnalyzeBases': WHATEVER THE INPUT: true; the input reads as it did. -/
def analyzeBasesSpec : ChangeSpec := { name := "analyzeBases", fn := fun _ => fun
  | [d1, d2] => { results := [.lit (.bool true)], args := [d1, d2] }
  | _ => none }
def analyzeBasesRow : OpenClaim := { program := "ytgglheknmlfghaagreat", sum := "f3ff21a3e752f002734ca1d4855b343af4239f8cb1a73dec473d12a4593e4710", func := "langdoc/langdoclaw30.AnalyzeBases", spec := "analyzeBases", unfollowed := true, recurses := true, apart := false }
def AnalyzeBasesSaid : Prop := analyzeBasesRow.holds Tryz.pinned (OpenSpec.ofChange analyzeBasesSpec)

/-- ITS FALSE NEIGHBOUR: 'it returns false'. Refute it at one input. -/
def analyzeBasesWrong : ChangeSpec := { name := "analyzeBases", fn := fun _ => fun
  | [d1, d2] => { results := [.lit (.bool false)], args := [d1, d2] }
  | _ => none }
def AnalyzeBasesWrongFalsely : Prop := analyzeBasesRow.holds Tryz.pinned (OpenSpec.ofChange analyzeBasesWrong)

/-- 'langdoclaw30.AnalyzeAll': WHATEVER THE INPUT: true; the input reads as it did. -/
def analyzeAllSpec : ChangeSpec := { name := "analyzeAll", fn := fun _ => fun
  | [d1, d2] => { results := [.lit (.bool true)], args := [d1, d2] }
  | _ => none }
def analyzeAllRow : OpenClaim := { program := "ytgglheknmlfghaagreat", sum := "f3ff21a3e752f002734ca1d4855b343af4239f8cb1a73dec473d12a4593e4710", func := "langdoc/langdoclaw30.AnalyzeAll", spec := "analyzeAll", unfollowed := true, recurses := true, apart := false }
def AnalyzeAllSaid : Prop := analyzeAllRow.holds Tryz.pinned (OpenSpec.ofChange analyzeAllSpec)

/-- ITS FALSE NEIGHBOUR: 'it returns false'. Refute it at one input. -/
def analyzeAllWrong : ChangeSpec := { name := "analyzeAll", fn := fun _ => fun
  | [d1, d2] => { results := [.lit (.bool false)], args := [d1, d2] }
  | _ => none }
def AnalyzeAllWrongFalsely : Prop := analyzeAllRow.holds Tryz.pinned (OpenSpec.ofChange analyzeAllWrong)

/-- 'langdoclaw30.AnalyzeOf': WHATEVER THE INPUT: true; the input reads as it did. -/
def analyzeOfSpec : ChangeSpec := { name := "analyzeOf", fn := fun _ => fun
  | [d1, d2] => { results := [.lit (.bool true)], args := [d1, d2] }
  | _ => none }
def analyzeOfRow : OpenClaim := { program := "ytgglheknmlfghaagreat", sum := "f3ff21a3e752f002734ca1d4855b343af4239f8cb1a73dec473d12a4593e4710", func := "langdoc/langdoclaw30.AnalyzeOf", spec := "analyzeOf", unfollowed := true, recurses := true, apart := false }
def AnalyzeOfSaid : Prop := analyzeOfRow.holds Tryz.pinned (OpenSpec.ofChange analyzeOfSpec)

/-- ITS FALSE NEIGHBOUR: 'it returns false'. Refute it at one input. -/
def analyzeOfWrong : ChangeSpec := { name := "analyzeOf", fn := fun _ => fun
  | [d1, d2] => { results := [.lit (.bool false)], args := [d1, d2] }
  | _ => none }
def AnalyzeOfWrongFalsely : Prop := analyzeOfRow.holds Tryz.pinned (OpenSpec.ofChange analyzeOfWrong)

/-- 'langdoclaw30.AnalyzeUses': WHATEVER THE INPUT: true; the input reads as it did. -/
def analyzeUsesSpec : ChangeSpec := { name := "analyzeUses", fn := fun _ => fun
  | [d1, d2, d3] => { results := [.lit (.bool true)], args := [d1, d2, d3] }
  | _ => none }
def analyzeUsesRow : OpenClaim := { program := "ytgglheknmlfghaagreat", sum := "f3ff21a3e752f002734ca1d4855b343af4239f8cb1a73dec473d12a4593e4710", func := "langdoc/langdoclaw30.AnalyzeUses", spec := "analyzeUses", unfollowed := true, recurses := true, apart := false }
def AnalyzeUsesSaid : Prop := analyzeUsesRow.holds Tryz.pinned (OpenSpec.ofChange analyzeUsesSpec)

/-- ITS FALSE NEIGHBOUR: 'it returns false'. Refute it at one input. -/
def analyzeUsesWrong : ChangeSpec := { name := "analyzeUses", fn := fun _ => fun
  | [d1, d2, d3] => { results := [.lit (.bool false)], args := [d1, d2, d3] }
  | _ => none }
def AnalyzeUsesWrongFalsely : Prop := analyzeUsesRow.holds Tryz.pinned (OpenSpec.ofChange analyzeUsesWrong)

/-- 'langdoclaw30.AnalyzeForms': WHATEVER THE INPUT: true; the input reads as it did. -/
def analyzeFormsSpec : ChangeSpec := { name := "analyzeForms", fn := fun _ => fun
  | [d1, d2] => { results := [.lit (.bool true)], args := [d1, d2] }
  | _ => none }
def analyzeFormsRow : OpenClaim := { program := "ytgglheknmlfghaagreat", sum := "f3ff21a3e752f002734ca1d4855b343af4239f8cb1a73dec473d12a4593e4710", func := "langdoc/langdoclaw30.AnalyzeForms", spec := "analyzeForms", unfollowed := true, recurses := true, apart := false }
def AnalyzeFormsSaid : Prop := analyzeFormsRow.holds Tryz.pinned (OpenSpec.ofChange analyzeFormsSpec)

/-- ITS FALSE NEIGHBOUR: 'it returns false'. Refute it at one input. -/
def analyzeFormsWrong : ChangeSpec := { name := "analyzeForms", fn := fun _ => fun
  | [d1, d2] => { results := [.lit (.bool false)], args := [d1, d2] }
  | _ => none }
def AnalyzeFormsWrongFalsely : Prop := analyzeFormsRow.holds Tryz.pinned (OpenSpec.ofChange analyzeFormsWrong)

/-- 'langdoclaw30.AnalyzeExact': WHATEVER THE INPUT: true; the input reads as it did. -/
def analyzeExactSpec : ChangeSpec := { name := "analyzeExact", fn := fun _ => fun
  | [d1, d2] => { results := [.lit (.bool true)], args := [d1, d2] }
  | _ => none }
def analyzeExactRow : OpenClaim := { program := "ytgglheknmlfghaagreat", sum := "f3ff21a3e752f002734ca1d4855b343af4239f8cb1a73dec473d12a4593e4710", func := "langdoc/langdoclaw30.AnalyzeExact", spec := "analyzeExact", unfollowed := true, recurses := true, apart := false }
def AnalyzeExactSaid : Prop := analyzeExactRow.holds Tryz.pinned (OpenSpec.ofChange analyzeExactSpec)

/-- ITS FALSE NEIGHBOUR: 'it returns false'. Refute it at one input. -/
def analyzeExactWrong : ChangeSpec := { name := "analyzeExact", fn := fun _ => fun
  | [d1, d2] => { results := [.lit (.bool false)], args := [d1, d2] }
  | _ => none }
def AnalyzeExactWrongFalsely : Prop := analyzeExactRow.holds Tryz.pinned (OpenSpec.ofChange analyzeExactWrong)

/-- 'langdoclaw30.AnalyzeNone': WHATEVER THE INPUT: true; the input reads as it did. -/
def analyzeNoneSpec : ChangeSpec := { name := "analyzeNone", fn := fun _ => fun
  | [d1, d2, d3] => { results := [.lit (.bool true)], args := [d1, d2, d3] }
  | _ => none }
def analyzeNoneRow : OpenClaim := { program := "ytgglheknmlfghaagreat", sum := "f3ff21a3e752f002734ca1d4855b343af4239f8cb1a73dec473d12a4593e4710", func := "langdoc/langdoclaw30.AnalyzeNone", spec := "analyzeNone", unfollowed := true, recurses := true, apart := false }
def AnalyzeNoneSaid : Prop := analyzeNoneRow.holds Tryz.pinned (OpenSpec.ofChange analyzeNoneSpec)

/-- ITS FALSE NEIGHBOUR: 'it returns false'. Refute it at one input. -/
def analyzeNoneWrong : ChangeSpec := { name := "analyzeNone", fn := fun _ => fun
  | [d1, d2, d3] => { results := [.lit (.bool false)], args := [d1, d2, d3] }
  | _ => none }
def AnalyzeNoneWrongFalsely : Prop := analyzeNoneRow.holds Tryz.pinned (OpenSpec.ofChange analyzeNoneWrong)

/-- 'langdoclaw30.AnalyzeDrops': WHATEVER THE INPUT: true; the input reads as it did. -/
def analyzeDropsSpec : ChangeSpec := { name := "analyzeDrops", fn := fun _ => fun
  | [d1, d2, d3] => { results := [.lit (.bool true)], args := [d1, d2, d3] }
  | _ => none }
def analyzeDropsRow : OpenClaim := { program := "ytgglheknmlfghaagreat", sum := "f3ff21a3e752f002734ca1d4855b343af4239f8cb1a73dec473d12a4593e4710", func := "langdoc/langdoclaw30.AnalyzeDrops", spec := "analyzeDrops", unfollowed := true, recurses := true, apart := false }
def AnalyzeDropsSaid : Prop := analyzeDropsRow.holds Tryz.pinned (OpenSpec.ofChange analyzeDropsSpec)

/-- ITS FALSE NEIGHBOUR: 'it returns false'. Refute it at one input. -/
def analyzeDropsWrong : ChangeSpec := { name := "analyzeDrops", fn := fun _ => fun
  | [d1, d2, d3] => { results := [.lit (.bool false)], args := [d1, d2, d3] }
  | _ => none }
def AnalyzeDropsWrongFalsely : Prop := analyzeDropsRow.holds Tryz.pinned (OpenSpec.ofChange analyzeDropsWrong)

/-- 'langdoclaw30.AnalyzeSpelled': WHATEVER THE INPUT: true; the input reads as it did. -/
def analyzeSpelledSpec : ChangeSpec := { name := "analyzeSpelled", fn := fun _ => fun
  | [d1, d2] => { results := [.lit (.bool true)], args := [d1, d2] }
  | _ => none }
def analyzeSpelledRow : OpenClaim := { program := "ytgglheknmlfghaagreat", sum := "f3ff21a3e752f002734ca1d4855b343af4239f8cb1a73dec473d12a4593e4710", func := "langdoc/langdoclaw30.AnalyzeSpelled", spec := "analyzeSpelled", inPlace := ["internal/abi.NoEscape"], unfollowed := true, recurses := true, apart := false }
def AnalyzeSpelledSaid : Prop := analyzeSpelledRow.holds Tryz.pinned (OpenSpec.ofChange analyzeSpelledSpec)

/-- ITS FALSE NEIGHBOUR: 'it returns false'. Refute it at one input. -/
def analyzeSpelledWrong : ChangeSpec := { name := "analyzeSpelled", fn := fun _ => fun
  | [d1, d2] => { results := [.lit (.bool false)], args := [d1, d2] }
  | _ => none }
def AnalyzeSpelledWrongFalsely : Prop := analyzeSpelledRow.holds Tryz.pinned (OpenSpec.ofChange analyzeSpelledWrong)

/- THE SECOND FORM. 'bulk': how many values and letters a reading holds, each counted each time it is reached (what is shared counts as often as it is met; a slice's spare places count too). A statement '..UptoSaid' is the law's where the arguments, and the package variables that the reading takes, are together of bulk at most 1048576: NARROWER than '..Said'. Prove '..Said' where nothing that the law and all that it calls make is longer than what came in: it says more and counts as full. Else prove '..UptoSaid'. A law counts once. -/
mutual
def uptoBulk {H : Type} : DataW H → Nat
  | .lit (.string bytes) => bytes.length + 1
  | .lit _ => 1
  | .nil => 1
  | .ptr d => uptoBulk d + 1
  | .slice elems spare => uptoBulkAll elems + uptoBulkAll spare + 1
  | .agg parts => uptoBulkAll parts + 1
  | .iface _ d => uptoBulk d + 1
  | .map entries => uptoBulkEntries entries + 1
  | .held _ => 1
def uptoBulkAll {H : Type} : List (DataW H) → Nat
  | [] => 0
  | d :: r => uptoBulk d + uptoBulkAll r
def uptoBulkEntries {H : Type} : List (Lit × DataW H) → Nat
  | [] => 0
  | x :: r => uptoBulkEntry x + uptoBulkEntries r
def uptoBulkEntry {H : Type} : Lit × DataW H → Nat
  | (.string bytes, d) => bytes.length + uptoBulk d + 1
  | (_, d) => uptoBulk d + 1
 end
def uptoSmall : (H : Type) → List (DataW H) → Bool := fun _ ds => decide (uptoBulkAll ds ≤ 1048576)
def OpenSpec.upto (s : _root_.Go.ChangeSpec) : _root_.Go.OpenSpec := { _root_.Go.OpenSpec.ofChange s with cond := some uptoSmall }

/-- 'langdoclaw30.AnalyzeLicensed', WHERE WHAT IT READS IS OF BULK AT MOST 1048576: true; the input reads as it did. -/
def analyzeLicensedUptoRow : OpenClaim := { program := "ytgglheknmlfghaagreat", sum := "f3ff21a3e752f002734ca1d4855b343af4239f8cb1a73dec473d12a4593e4710", func := "langdoc/langdoclaw30.AnalyzeLicensed", spec := "analyzeLicensed", unfollowed := true, recurses := true, apart := false, narrowed := true }
def AnalyzeLicensedUptoSaid : Prop := analyzeLicensedUptoRow.holds Tryz.pinned (OpenSpec.upto analyzeLicensedSpec)

/-- 'langdoclaw30.AnalyzeBases', WHERE WHAT IT READS IS OF BULK AT MOST 1048576: true; the input reads as it did. -/
def analyzeBasesUptoRow : OpenClaim := { program := "ytgglheknmlfghaagreat", sum := "f3ff21a3e752f002734ca1d4855b343af4239f8cb1a73dec473d12a4593e4710", func := "langdoc/langdoclaw30.AnalyzeBases", spec := "analyzeBases", unfollowed := true, recurses := true, apart := false, narrowed := true }
def AnalyzeBasesUptoSaid : Prop := analyzeBasesUptoRow.holds Tryz.pinned (OpenSpec.upto analyzeBasesSpec)

/-- 'langdoclaw30.AnalyzeAll', WHERE WHAT IT READS IS OF BULK AT MOST 1048576: true; the input reads as it did. -/
def analyzeAllUptoRow : OpenClaim := { program := "ytgglheknmlfghaagreat", sum := "f3ff21a3e752f002734ca1d4855b343af4239f8cb1a73dec473d12a4593e4710", func := "langdoc/langdoclaw30.AnalyzeAll", spec := "analyzeAll", unfollowed := true, recurses := true, apart := false, narrowed := true }
def AnalyzeAllUptoSaid : Prop := analyzeAllUptoRow.holds Tryz.pinned (OpenSpec.upto analyzeAllSpec)

/-- 'langdoclaw30.AnalyzeOf', WHERE WHAT IT READS IS OF BULK AT MOST 1048576: true; the input reads as it did. -/
def analyzeOfUptoRow : OpenClaim := { program := "ytgglheknmlfghaagreat", sum := "f3ff21a3e752f002734ca1d4855b343af4239f8cb1a73dec473d12a4593e4710", func := "langdoc/langdoclaw30.AnalyzeOf", spec := "analyzeOf", unfollowed := true, recurses := true, apart := false, narrowed := true }
def AnalyzeOfUptoSaid : Prop := analyzeOfUptoRow.holds Tryz.pinned (OpenSpec.upto analyzeOfSpec)

/-- 'langdoclaw30.AnalyzeUses', WHERE WHAT IT READS IS OF BULK AT MOST 1048576: true; the input reads as it did. -/
def analyzeUsesUptoRow : OpenClaim := { program := "ytgglheknmlfghaagreat", sum := "f3ff21a3e752f002734ca1d4855b343af4239f8cb1a73dec473d12a4593e4710", func := "langdoc/langdoclaw30.AnalyzeUses", spec := "analyzeUses", unfollowed := true, recurses := true, apart := false, narrowed := true }
def AnalyzeUsesUptoSaid : Prop := analyzeUsesUptoRow.holds Tryz.pinned (OpenSpec.upto analyzeUsesSpec)

/-- 'langdoclaw30.AnalyzeForms', WHERE WHAT IT READS IS OF BULK AT MOST 1048576: true; the input reads as it did. -/
def analyzeFormsUptoRow : OpenClaim := { program := "ytgglheknmlfghaagreat", sum := "f3ff21a3e752f002734ca1d4855b343af4239f8cb1a73dec473d12a4593e4710", func := "langdoc/langdoclaw30.AnalyzeForms", spec := "analyzeForms", unfollowed := true, recurses := true, apart := false, narrowed := true }
def AnalyzeFormsUptoSaid : Prop := analyzeFormsUptoRow.holds Tryz.pinned (OpenSpec.upto analyzeFormsSpec)

/-- 'langdoclaw30.AnalyzeExact', WHERE WHAT IT READS IS OF BULK AT MOST 1048576: true; the input reads as it did. -/
def analyzeExactUptoRow : OpenClaim := { program := "ytgglheknmlfghaagreat", sum := "f3ff21a3e752f002734ca1d4855b343af4239f8cb1a73dec473d12a4593e4710", func := "langdoc/langdoclaw30.AnalyzeExact", spec := "analyzeExact", unfollowed := true, recurses := true, apart := false, narrowed := true }
def AnalyzeExactUptoSaid : Prop := analyzeExactUptoRow.holds Tryz.pinned (OpenSpec.upto analyzeExactSpec)

/-- 'langdoclaw30.AnalyzeNone', WHERE WHAT IT READS IS OF BULK AT MOST 1048576: true; the input reads as it did. -/
def analyzeNoneUptoRow : OpenClaim := { program := "ytgglheknmlfghaagreat", sum := "f3ff21a3e752f002734ca1d4855b343af4239f8cb1a73dec473d12a4593e4710", func := "langdoc/langdoclaw30.AnalyzeNone", spec := "analyzeNone", unfollowed := true, recurses := true, apart := false, narrowed := true }
def AnalyzeNoneUptoSaid : Prop := analyzeNoneUptoRow.holds Tryz.pinned (OpenSpec.upto analyzeNoneSpec)

/-- 'langdoclaw30.AnalyzeDrops', WHERE WHAT IT READS IS OF BULK AT MOST 1048576: true; the input reads as it did. -/
def analyzeDropsUptoRow : OpenClaim := { program := "ytgglheknmlfghaagreat", sum := "f3ff21a3e752f002734ca1d4855b343af4239f8cb1a73dec473d12a4593e4710", func := "langdoc/langdoclaw30.AnalyzeDrops", spec := "analyzeDrops", unfollowed := true, recurses := true, apart := false, narrowed := true }
def AnalyzeDropsUptoSaid : Prop := analyzeDropsUptoRow.holds Tryz.pinned (OpenSpec.upto analyzeDropsSpec)

/-- 'langdoclaw30.AnalyzeSpelled', WHERE WHAT IT READS IS OF BULK AT MOST 1048576: true; the input reads as it did. -/
def analyzeSpelledUptoRow : OpenClaim := { program := "ytgglheknmlfghaagreat", sum := "f3ff21a3e752f002734ca1d4855b343af4239f8cb1a73dec473d12a4593e4710", func := "langdoc/langdoclaw30.AnalyzeSpelled", spec := "analyzeSpelled", inPlace := ["internal/abi.NoEscape"], unfollowed := true, recurses := true, apart := false, narrowed := true }
def AnalyzeSpelledUptoSaid : Prop := analyzeSpelledUptoRow.holds Tryz.pinned (OpenSpec.upto analyzeSpelledSpec)

end Rows
end Go.Proofs.YtgglheknmlfghaaGreat

/-
  No cell of these rows narrows 'for every input' (looked for: loops, veiled, ifaces, maps, wideKeys, modest, calm, conditions, laid).
  DERIVED. THE GIVEN ROWS OF THIS SEAT. 10 by the template 'for every input the law returns true; each argument reads behind the call as it read before'; 0 by the template 'total and deterministic' (their statements: YtmpknkjlhapcmaaGreatTotals.lean).
  GIVEN WITH THE SEED: the statements are not yours to turn. If you find one false, say at which input.
  Laid BY PROGRAM, IN A SANDBOX (cutbox-rows.mjs): the forced cells as the released guide's own fill.sh prints them over the translation b6beb43233c28c11… (all of the seat's roots in one cut). By AI agents, Wed Nov 11 2026. No macro, syntax, notation, axiom, sorry.
-/
import Derived.Test.YtmpknkjlhapcmaaGreatChecked
import GoSem.Claim
import GoSem.ClaimJoined
import GoSem.ClaimMapViews
import Derived.JoinedTies
import Derived.KernelRfl
namespace Go.Proofs.YtmpknkjlhapcmaaGreat
/- THE CELL 'sum', in the pinned program and in every row, IS THE sha256 OF THE DUMP (.gsa) THAT YtmpknkjlhapcmaaGreatProg.lean LOADS. Nothing in Lean hashes anything: it is a label: what it is worth is what the hold of that sum in a sandbox is worth. -/
noncomputable def Tryz.pinned : Pinned := { name := "ytmpknkjlhapcmaagreat", sum := "b6beb43233c28c111b3bb85baa171e408d3f10831414b34af9f6f9d2f044d8ab", checked := Tryz.checked }
namespace Rows
def none {H : Type} : Left H := { results := [], args := [] }

/-- 'langdoclaw31.DecideChecks': WHATEVER THE INPUT: true; the input reads as it did. -/
def decideChecksSpec : ChangeSpec := { name := "decideChecks", fn := fun _ => fun
  | [d] => { results := [.lit (.bool true)], args := [d] }
  | _ => none }
def decideChecksRow : OpenClaim := { program := "ytmpknkjlhapcmaagreat", sum := "b6beb43233c28c111b3bb85baa171e408d3f10831414b34af9f6f9d2f044d8ab", func := "langdoc/langdoclaw31.DecideChecks", spec := "decideChecks", inPlace := ["slices.overlaps[langdoc/api.Decision]"], unfollowed := true, recurses := true, apart := false }
def DecideChecksSaid : Prop := decideChecksRow.holds Tryz.pinned (OpenSpec.ofChange decideChecksSpec)

/-- ITS FALSE NEIGHBOUR: 'it returns false'. Refute it at one input. -/
def decideChecksWrong : ChangeSpec := { name := "decideChecks", fn := fun _ => fun
  | [d] => { results := [.lit (.bool false)], args := [d] }
  | _ => none }
def DecideChecksWrongFalsely : Prop := decideChecksRow.holds Tryz.pinned (OpenSpec.ofChange decideChecksWrong)

/-- 'langdoclaw31.DecidePuts': WHATEVER THE INPUT: true; the input reads as it did. -/
def decidePutsSpec : ChangeSpec := { name := "decidePuts", fn := fun _ => fun
  | [d1, d2] => { results := [.lit (.bool true)], args := [d1, d2] }
  | _ => none }
def decidePutsRow : OpenClaim := { program := "ytmpknkjlhapcmaagreat", sum := "b6beb43233c28c111b3bb85baa171e408d3f10831414b34af9f6f9d2f044d8ab", func := "langdoc/langdoclaw31.DecidePuts", spec := "decidePuts", inPlace := ["slices.overlaps[langdoc/api.Decision]"], unfollowed := true, recurses := true, apart := false }
def DecidePutsSaid : Prop := decidePutsRow.holds Tryz.pinned (OpenSpec.ofChange decidePutsSpec)

/-- ITS FALSE NEIGHBOUR: 'it returns false'. Refute it at one input. -/
def decidePutsWrong : ChangeSpec := { name := "decidePuts", fn := fun _ => fun
  | [d1, d2] => { results := [.lit (.bool false)], args := [d1, d2] }
  | _ => none }
def DecidePutsWrongFalsely : Prop := decidePutsRow.holds Tryz.pinned (OpenSpec.ofChange decidePutsWrong)

/-- 'langdoclaw31.DecideDrops': WHATEVER THE INPUT: true; the input reads as it did. -/
def decideDropsSpec : ChangeSpec := { name := "decideDrops", fn := fun _ => fun
  | [d1, d2] => { results := [.lit (.bool true)], args := [d1, d2] }
  | _ => none }
def decideDropsRow : OpenClaim := { program := "ytmpknkjlhapcmaagreat", sum := "b6beb43233c28c111b3bb85baa171e408d3f10831414b34af9f6f9d2f044d8ab", func := "langdoc/langdoclaw31.DecideDrops", spec := "decideDrops", inPlace := ["slices.overlaps[langdoc/api.Decision]"], unfollowed := true, recurses := true, apart := false }
def DecideDropsSaid : Prop := decideDropsRow.holds Tryz.pinned (OpenSpec.ofChange decideDropsSpec)

/-- ITS FALSE NEIGHBOUR: 'it returns false'. Refute it at one input. -/
def decideDropsWrong : ChangeSpec := { name := "decideDrops", fn := fun _ => fun
  | [d1, d2] => { results := [.lit (.bool false)], args := [d1, d2] }
  | _ => none }
def DecideDropsWrongFalsely : Prop := decideDropsRow.holds Tryz.pinned (OpenSpec.ofChange decideDropsWrong)

/-- 'langdoclaw31.DecideChoices': WHATEVER THE INPUT: true; the input reads as it did. -/
def decideChoicesSpec : ChangeSpec := { name := "decideChoices", fn := fun _ => fun
  | [d] => { results := [.lit (.bool true)], args := [d] }
  | _ => none }
def decideChoicesRow : OpenClaim := { program := "ytmpknkjlhapcmaagreat", sum := "b6beb43233c28c111b3bb85baa171e408d3f10831414b34af9f6f9d2f044d8ab", func := "langdoc/langdoclaw31.DecideChoices", spec := "decideChoices", inPlace := ["slices.overlaps[langdoc/api.Decision]"], unfollowed := true, recurses := true, apart := false }
def DecideChoicesSaid : Prop := decideChoicesRow.holds Tryz.pinned (OpenSpec.ofChange decideChoicesSpec)

/-- ITS FALSE NEIGHBOUR: 'it returns false'. Refute it at one input. -/
def decideChoicesWrong : ChangeSpec := { name := "decideChoices", fn := fun _ => fun
  | [d] => { results := [.lit (.bool false)], args := [d] }
  | _ => none }
def DecideChoicesWrongFalsely : Prop := decideChoicesRow.holds Tryz.pinned (OpenSpec.ofChange decideChoicesWrong)

/-- 'langdoclaw31.DecideStates': WHATEVER THE INPUT: true; the input reads as it did. -/
def decideStatesSpec : ChangeSpec := { name := "decideStates", fn := fun _ => fun
  | [d] => { results := [.lit (.bool true)], args := [d] }
  | _ => none }
def decideStatesRow : OpenClaim := { program := "ytmpknkjlhapcmaagreat", sum := "b6beb43233c28c111b3bb85baa171e408d3f10831414b34af9f6f9d2f044d8ab", func := "langdoc/langdoclaw31.DecideStates", spec := "decideStates", inPlace := ["slices.overlaps[langdoc/api.Decision]"], unfollowed := true, recurses := true, apart := false }
def DecideStatesSaid : Prop := decideStatesRow.holds Tryz.pinned (OpenSpec.ofChange decideStatesSpec)

/-- ITS FALSE NEIGHBOUR: 'it returns false'. Refute it at one input. -/
def decideStatesWrong : ChangeSpec := { name := "decideStates", fn := fun _ => fun
  | [d] => { results := [.lit (.bool false)], args := [d] }
  | _ => none }
def DecideStatesWrongFalsely : Prop := decideStatesRow.holds Tryz.pinned (OpenSpec.ofChange decideStatesWrong)

/-- 'langdoclaw31.DecideSame': WHATEVER THE INPUT: true; the input reads as it did. -/
def decideSameSpec : ChangeSpec := { name := "decideSame", fn := fun _ => fun
  | [d1, d2] => { results := [.lit (.bool true)], args := [d1, d2] }
  | _ => none }
def decideSameRow : OpenClaim := { program := "ytmpknkjlhapcmaagreat", sum := "b6beb43233c28c111b3bb85baa171e408d3f10831414b34af9f6f9d2f044d8ab", func := "langdoc/langdoclaw31.DecideSame", spec := "decideSame", inPlace := ["slices.overlaps[langdoc/api.Decision]"], unfollowed := true, recurses := true, apart := false }
def DecideSameSaid : Prop := decideSameRow.holds Tryz.pinned (OpenSpec.ofChange decideSameSpec)

/-- ITS FALSE NEIGHBOUR: 'it returns false'. Refute it at one input. -/
def decideSameWrong : ChangeSpec := { name := "decideSame", fn := fun _ => fun
  | [d1, d2] => { results := [.lit (.bool false)], args := [d1, d2] }
  | _ => none }
def DecideSameWrongFalsely : Prop := decideSameRow.holds Tryz.pinned (OpenSpec.ofChange decideSameWrong)

/-- 'langdoclaw31.DecideRight': WHATEVER THE INPUT: true; the input reads as it did. -/
def decideRightSpec : ChangeSpec := { name := "decideRight", fn := fun _ => fun
  | [d1, d2] => { results := [.lit (.bool true)], args := [d1, d2] }
  | _ => none }
def decideRightRow : OpenClaim := { program := "ytmpknkjlhapcmaagreat", sum := "b6beb43233c28c111b3bb85baa171e408d3f10831414b34af9f6f9d2f044d8ab", func := "langdoc/langdoclaw31.DecideRight", spec := "decideRight", inPlace := ["slices.overlaps[langdoc/api.Decision]"], unfollowed := true, recurses := true, apart := false }
def DecideRightSaid : Prop := decideRightRow.holds Tryz.pinned (OpenSpec.ofChange decideRightSpec)

/-- ITS FALSE NEIGHBOUR: 'it returns false'. Refute it at one input. -/
def decideRightWrong : ChangeSpec := { name := "decideRight", fn := fun _ => fun
  | [d1, d2] => { results := [.lit (.bool false)], args := [d1, d2] }
  | _ => none }
def DecideRightWrongFalsely : Prop := decideRightRow.holds Tryz.pinned (OpenSpec.ofChange decideRightWrong)

/-- 'langdoclaw31.DecideAlone': WHATEVER THE INPUT: true; the input reads as it did. -/
def decideAloneSpec : ChangeSpec := { name := "decideAlone", fn := fun _ => fun
  | [d] => { results := [.lit (.bool true)], args := [d] }
  | _ => none }
def decideAloneRow : OpenClaim := { program := "ytmpknkjlhapcmaagreat", sum := "b6beb43233c28c111b3bb85baa171e408d3f10831414b34af9f6f9d2f044d8ab", func := "langdoc/langdoclaw31.DecideAlone", spec := "decideAlone", inPlace := ["slices.overlaps[langdoc/api.Decision]"], unfollowed := true, recurses := true, apart := false }
def DecideAloneSaid : Prop := decideAloneRow.holds Tryz.pinned (OpenSpec.ofChange decideAloneSpec)

/-- ITS FALSE NEIGHBOUR: 'it returns false'. Refute it at one input. -/
def decideAloneWrong : ChangeSpec := { name := "decideAlone", fn := fun _ => fun
  | [d] => { results := [.lit (.bool false)], args := [d] }
  | _ => none }
def DecideAloneWrongFalsely : Prop := decideAloneRow.holds Tryz.pinned (OpenSpec.ofChange decideAloneWrong)

/-- 'langdoclaw31.DecideOrder': WHATEVER THE INPUT: true; the input reads as it did. -/
def decideOrderSpec : ChangeSpec := { name := "decideOrder", fn := fun _ => fun
  | [d1, d2, d3] => { results := [.lit (.bool true)], args := [d1, d2, d3] }
  | _ => none }
def decideOrderRow : OpenClaim := { program := "ytmpknkjlhapcmaagreat", sum := "b6beb43233c28c111b3bb85baa171e408d3f10831414b34af9f6f9d2f044d8ab", func := "langdoc/langdoclaw31.DecideOrder", spec := "decideOrder", inPlace := ["slices.overlaps[langdoc/api.Decision]"], unfollowed := true, recurses := true, apart := false }
def DecideOrderSaid : Prop := decideOrderRow.holds Tryz.pinned (OpenSpec.ofChange decideOrderSpec)

/-- ITS FALSE NEIGHBOUR: 'it returns false'. Refute it at one input. -/
def decideOrderWrong : ChangeSpec := { name := "decideOrder", fn := fun _ => fun
  | [d1, d2, d3] => { results := [.lit (.bool false)], args := [d1, d2, d3] }
  | _ => none }
def DecideOrderWrongFalsely : Prop := decideOrderRow.holds Tryz.pinned (OpenSpec.ofChange decideOrderWrong)

/-- 'langdoclaw31.DecideApproves': WHATEVER THE INPUT: true; the input reads as it did. -/
def decideApprovesSpec : ChangeSpec := { name := "decideApproves", fn := fun _ => fun
  | [d1, d2] => { results := [.lit (.bool true)], args := [d1, d2] }
  | _ => none }
def decideApprovesRow : OpenClaim := { program := "ytmpknkjlhapcmaagreat", sum := "b6beb43233c28c111b3bb85baa171e408d3f10831414b34af9f6f9d2f044d8ab", func := "langdoc/langdoclaw31.DecideApproves", spec := "decideApproves", inPlace := ["slices.overlaps[langdoc/api.Decision]"], unfollowed := true, recurses := true, apart := false }
def DecideApprovesSaid : Prop := decideApprovesRow.holds Tryz.pinned (OpenSpec.ofChange decideApprovesSpec)

/-- ITS FALSE NEIGHBOUR: 'it returns false'. Refute it at one input. -/
def decideApprovesWrong : ChangeSpec := { name := "decideApproves", fn := fun _ => fun
  | [d1, d2] => { results := [.lit (.bool false)], args := [d1, d2] }
  | _ => none }
def DecideApprovesWrongFalsely : Prop := decideApprovesRow.holds Tryz.pinned (OpenSpec.ofChange decideApprovesWrong)

/- THE SECOND FORM. 'bulk': how many values and letters a reading holds, each counted each time it is reached (what is shared counts as often as it is met; a slice's spare places count too). A statement '..UptoSaid' is the law's where the arguments, and the package variables that the reading takes, are together of bulk at most 1048576: NARROWER than '..Said'. Prove '..Said' where nothing that the law and all that it calls make is longer than what came in: it says more and counts as full. Else prove '..UptoSaid'. A law counts once. -/
mutual
def uptoBulk {H : Type} : DataW H → Nat
  | .lit (.string bytes) => bytes.length + 1
  | .lit _ => 1
  | .nil => 1
  | .ptr d => uptoBulk d + 1
  | .slice elems spare => uptoBulkAll elems + uptoBulkAll spare + 1
  | .agg parts => uptoBulkAll parts + 1
  | .iface _ d => uptoBulk d + 1
  | .map entries => uptoBulkEntries entries + 1
  | .held _ => 1
def uptoBulkAll {H : Type} : List (DataW H) → Nat
  | [] => 0
  | d :: r => uptoBulk d + uptoBulkAll r
def uptoBulkEntries {H : Type} : List (Lit × DataW H) → Nat
  | [] => 0
  | x :: r => uptoBulkEntry x + uptoBulkEntries r
def uptoBulkEntry {H : Type} : Lit × DataW H → Nat
  | (.string bytes, d) => bytes.length + uptoBulk d + 1
  | (_, d) => uptoBulk d + 1
 end
def uptoSmall : (H : Type) → List (DataW H) → Bool := fun _ ds => decide (uptoBulkAll ds ≤ 1048576)
def OpenSpec.upto (s : _root_.Go.ChangeSpec) : _root_.Go.OpenSpec := { _root_.Go.OpenSpec.ofChange s with cond := some uptoSmall }

/-- 'langdoclaw31.DecideChecks', WHERE WHAT IT READS IS OF BULK AT MOST 1048576: true; the input reads as it did. -/
def decideChecksUptoRow : OpenClaim := { program := "ytmpknkjlhapcmaagreat", sum := "b6beb43233c28c111b3bb85baa171e408d3f10831414b34af9f6f9d2f044d8ab", func := "langdoc/langdoclaw31.DecideChecks", spec := "decideChecks", inPlace := ["slices.overlaps[langdoc/api.Decision]"], unfollowed := true, recurses := true, apart := false, narrowed := true }
def DecideChecksUptoSaid : Prop := decideChecksUptoRow.holds Tryz.pinned (OpenSpec.upto decideChecksSpec)

/-- 'langdoclaw31.DecidePuts', WHERE WHAT IT READS IS OF BULK AT MOST 1048576: true; the input reads as it did. -/
def decidePutsUptoRow : OpenClaim := { program := "ytmpknkjlhapcmaagreat", sum := "b6beb43233c28c111b3bb85baa171e408d3f10831414b34af9f6f9d2f044d8ab", func := "langdoc/langdoclaw31.DecidePuts", spec := "decidePuts", inPlace := ["slices.overlaps[langdoc/api.Decision]"], unfollowed := true, recurses := true, apart := false, narrowed := true }
def DecidePutsUptoSaid : Prop := decidePutsUptoRow.holds Tryz.pinned (OpenSpec.upto decidePutsSpec)

/-- 'langdoclaw31.DecideDrops', WHERE WHAT IT READS IS OF BULK AT MOST 1048576: true; the input reads as it did. -/
def decideDropsUptoRow : OpenClaim := { program := "ytmpknkjlhapcmaagreat", sum := "b6beb43233c28c111b3bb85baa171e408d3f10831414b34af9f6f9d2f044d8ab", func := "langdoc/langdoclaw31.DecideDrops", spec := "decideDrops", inPlace := ["slices.overlaps[langdoc/api.Decision]"], unfollowed := true, recurses := true, apart := false, narrowed := true }
def DecideDropsUptoSaid : Prop := decideDropsUptoRow.holds Tryz.pinned (OpenSpec.upto decideDropsSpec)

/-- 'langdoclaw31.DecideChoices', WHERE WHAT IT READS IS OF BULK AT MOST 1048576: true; the input reads as it did. -/
def decideChoicesUptoRow : OpenClaim := { program := "ytmpknkjlhapcmaagreat", sum := "b6beb43233c28c111b3bb85baa171e408d3f10831414b34af9f6f9d2f044d8ab", func := "langdoc/langdoclaw31.DecideChoices", spec := "decideChoices", inPlace := ["slices.overlaps[langdoc/api.Decision]"], unfollowed := true, recurses := true, apart := false, narrowed := true }
def DecideChoicesUptoSaid : Prop := decideChoicesUptoRow.holds Tryz.pinned (OpenSpec.upto decideChoicesSpec)

/-- 'langdoclaw31.DecideStates', WHERE WHAT IT READS IS OF BULK AT MOST 1048576: true; the input reads as it did. -/
def decideStatesUptoRow : OpenClaim := { program := "ytmpknkjlhapcmaagreat", sum := "b6beb43233c28c111b3bb85baa171e408d3f10831414b34af9f6f9d2f044d8ab", func := "langdoc/langdoclaw31.DecideStates", spec := "decideStates", inPlace := ["slices.overlaps[langdoc/api.Decision]"], unfollowed := true, recurses := true, apart := false, narrowed := true }
def DecideStatesUptoSaid : Prop := decideStatesUptoRow.holds Tryz.pinned (OpenSpec.upto decideStatesSpec)

/-- 'langdoclaw31.DecideSame', WHERE WHAT IT READS IS OF BULK AT MOST 1048576: true; the input reads as it did. -/
def decideSameUptoRow : OpenClaim := { program := "ytmpknkjlhapcmaagreat", sum := "b6beb43233c28c111b3bb85baa171e408d3f10831414b34af9f6f9d2f044d8ab", func := "langdoc/langdoclaw31.DecideSame", spec := "decideSame", inPlace := ["slices.overlaps[langdoc/api.Decision]"], unfollowed := true, recurses := true, apart := false, narrowed := true }
def DecideSameUptoSaid : Prop := decideSameUptoRow.holds Tryz.pinned (OpenSpec.upto decideSameSpec)

/-- 'langdoclaw31.DecideRight', WHERE WHAT IT READS IS OF BULK AT MOST 1048576: true; the input reads as it did. -/
def decideRightUptoRow : OpenClaim := { program := "ytmpknkjlhapcmaagreat", sum := "b6beb43233c28c111b3bb85baa171e408d3f10831414b34af9f6f9d2f044d8ab", func := "langdoc/langdoclaw31.DecideRight", spec := "decideRight", inPlace := ["slices.overlaps[langdoc/api.Decision]"], unfollowed := true, recurses := true, apart := false, narrowed := true }
def DecideRightUptoSaid : Prop := decideRightUptoRow.holds Tryz.pinned (OpenSpec.upto decideRightSpec)

/-- 'langdoclaw31.DecideAlone', WHERE WHAT IT READS IS OF BULK AT MOST 1048576: true; the input reads as it did. -/
def decideAloneUptoRow : OpenClaim := { program := "ytmpknkjlhapcmaagreat", sum := "b6beb43233c28c111b3bb85baa171e408d3f10831414b34af9f6f9d2f044d8ab", func := "langdoc/langdoclaw31.DecideAlone", spec := "decideAlone", inPlace := ["slices.overlaps[langdoc/api.Decision]"], unfollowed := true, recurses := true, apart := false, narrowed := true }
def DecideAloneUptoSaid : Prop := decideAloneUptoRow.holds Tryz.pinned (OpenSpec.upto decideAloneSpec)

/-- 'langdoclaw31.DecideOrder', WHERE WHAT IT READS IS OF BULK AT MOST 1048576: true; the input reads as it did. -/
def decideOrderUptoRow : OpenClaim := { program := "ytmpknkjlhapcmaagreat", sum := "b6beb43233c28c111b3bb85baa171e408d3f10831414b34af9f6f9d2f044d8ab", func := "langdoc/langdoclaw31.DecideOrder", spec := "decideOrder", inPlace := ["slices.overlaps[langdoc/api.Decision]"], unfollowed := true, recurses := true, apart := false, narrowed := true }
def DecideOrderUptoSaid : Prop := decideOrderUptoRow.holds Tryz.pinned (OpenSpec.upto decideOrderSpec)

/-- 'langdoclaw31.DecideApproves', WHERE WHAT IT READS IS OF BULK AT MOST 1048576: true; the input reads as it did. -/
def decideApprovesUptoRow : OpenClaim := { program := "ytmpknkjlhapcmaagreat", sum := "b6beb43233c28c111b3bb85baa171e408d3f10831414b34af9f6f9d2f044d8ab", func := "langdoc/langdoclaw31.DecideApproves", spec := "decideApproves", inPlace := ["slices.overlaps[langdoc/api.Decision]"], unfollowed := true, recurses := true, apart := false, narrowed := true }
def DecideApprovesUptoSaid : Prop := decideApprovesUptoRow.holds Tryz.pinned (OpenSpec.upto decideApprovesSpec)

end Rows
end Go.Proofs.YtmpknkjlhapcmaaGreat

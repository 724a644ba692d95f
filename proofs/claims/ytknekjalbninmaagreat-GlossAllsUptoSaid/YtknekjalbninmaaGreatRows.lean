/-
  No cell of these rows narrows 'for every input' (looked for: loops, veiled, ifaces, maps, wideKeys, modest, calm, conditions, laid).
  DERIVED. THE GIVEN ROWS OF THIS SEAT. 9 by the template 'for every input the law returns true; each argument reads behind the call as it read before'; 0 by the template 'total and deterministic' (their statements: YtknekjalbninmaaGreatTotals.lean).
  GIVEN WITH THE SEED: the statements are not yours to turn. If you find one false, say at which input.
  Laid BY PROGRAM, IN A SANDBOX (cutbox-rows.mjs): the forced cells as the released guide's own fill.sh prints them over the translation dbe089f8cd768a2c… (all of the seat's roots in one cut). By AI agents, Wed Nov 11 2026. No macro, syntax, notation, axiom, sorry.
-/
import Derived.Test.YtknekjalbninmaaGreatChecked
import GoSem.Claim
import GoSem.ClaimJoined
import GoSem.ClaimMapViews
import Derived.JoinedTies
import Derived.KernelRfl
namespace Go.Proofs.YtknekjalbninmaaGreat
/- THE CELL 'sum', in the pinned program and in every row, IS THE sha256 OF THE DUMP (.gsa) THAT YtknekjalbninmaaGreatProg.lean LOADS. Nothing in Lean hashes anything: it is a label: what it is worth is what the hold of that sum in a sandbox is worth. -/
noncomputable def Tryz.pinned : Pinned := { name := "ytknekjalbninmaagreat", sum := "dbe089f8cd768a2c2a5066c081dac7f62c885291beeb60cfc5c8de3984e4477f", checked := Tryz.checked }
namespace Rows
def none {H : Type} : Left H := { results := [], args := [] }

/-- 'langdoclaw32.GlossLines': WHATEVER THE INPUT: true; the input reads as it did. -/
def glossLinesSpec : ChangeSpec := { name := "glossLines", fn := fun _ => fun
  | [d1, d2] => { results := [.lit (.bool true)], args := [d1, d2] }
  | _ => none }
def glossLinesRow : OpenClaim := { program := "ytknekjalbninmaagreat", sum := "dbe089f8cd768a2c2a5066c081dac7f62c885291beeb60cfc5c8de3984e4477f", func := "langdoc/langdoclaw32.GlossLines", spec := "glossLines", inPlace := ["internal/abi.NoEscape"], unfollowed := true, recurses := true, apart := false }
def GlossLinesSaid : Prop := glossLinesRow.holds Tryz.pinned (OpenSpec.ofChange glossLinesSpec)

/-- ITS FALSE NEIGHBOUR: 'it returns false'. Refute it at one input. -/
def glossLinesWrong : ChangeSpec := { name := "glossLines", fn := fun _ => fun
  | [d1, d2] => { results := [.lit (.bool false)], args := [d1, d2] }
  | _ => none }
def GlossLinesWrongFalsely : Prop := glossLinesRow.holds Tryz.pinned (OpenSpec.ofChange glossLinesWrong)

/-- 'langdoclaw32.GlossShows': WHATEVER THE INPUT: true; the input reads as it did. -/
def glossShowsSpec : ChangeSpec := { name := "glossShows", fn := fun _ => fun
  | [d1, d2] => { results := [.lit (.bool true)], args := [d1, d2] }
  | _ => none }
def glossShowsRow : OpenClaim := { program := "ytknekjalbninmaagreat", sum := "dbe089f8cd768a2c2a5066c081dac7f62c885291beeb60cfc5c8de3984e4477f", func := "langdoc/langdoclaw32.GlossShows", spec := "glossShows", inPlace := ["internal/abi.NoEscape"], unfollowed := true, recurses := true, apart := false }
def GlossShowsSaid : Prop := glossShowsRow.holds Tryz.pinned (OpenSpec.ofChange glossShowsSpec)

/-- ITS FALSE NEIGHBOUR: 'it returns false'. Refute it at one input. -/
def glossShowsWrong : ChangeSpec := { name := "glossShows", fn := fun _ => fun
  | [d1, d2] => { results := [.lit (.bool false)], args := [d1, d2] }
  | _ => none }
def GlossShowsWrongFalsely : Prop := glossShowsRow.holds Tryz.pinned (OpenSpec.ofChange glossShowsWrong)

/-- 'langdoclaw32.GlossClears': WHATEVER THE INPUT: true; the input reads as it did. -/
def glossClearsSpec : ChangeSpec := { name := "glossClears", fn := fun _ => fun
  | [d1, d2] => { results := [.lit (.bool true)], args := [d1, d2] }
  | _ => none }
def glossClearsRow : OpenClaim := { program := "ytknekjalbninmaagreat", sum := "dbe089f8cd768a2c2a5066c081dac7f62c885291beeb60cfc5c8de3984e4477f", func := "langdoc/langdoclaw32.GlossClears", spec := "glossClears", inPlace := ["internal/abi.NoEscape"], unfollowed := true, recurses := true, apart := false }
def GlossClearsSaid : Prop := glossClearsRow.holds Tryz.pinned (OpenSpec.ofChange glossClearsSpec)

/-- ITS FALSE NEIGHBOUR: 'it returns false'. Refute it at one input. -/
def glossClearsWrong : ChangeSpec := { name := "glossClears", fn := fun _ => fun
  | [d1, d2] => { results := [.lit (.bool false)], args := [d1, d2] }
  | _ => none }
def GlossClearsWrongFalsely : Prop := glossClearsRow.holds Tryz.pinned (OpenSpec.ofChange glossClearsWrong)

/-- 'langdoclaw32.GlossFills': WHATEVER THE INPUT: true; the input reads as it did. -/
def glossFillsSpec : ChangeSpec := { name := "glossFills", fn := fun _ => fun
  | [d1, d2, d3, d4, d5] => { results := [.lit (.bool true)], args := [d1, d2, d3, d4, d5] }
  | _ => none }
def glossFillsRow : OpenClaim := { program := "ytknekjalbninmaagreat", sum := "dbe089f8cd768a2c2a5066c081dac7f62c885291beeb60cfc5c8de3984e4477f", func := "langdoc/langdoclaw32.GlossFills", spec := "glossFills", inPlace := ["internal/abi.NoEscape"], unfollowed := true, recurses := true, apart := false }
def GlossFillsSaid : Prop := glossFillsRow.holds Tryz.pinned (OpenSpec.ofChange glossFillsSpec)

/-- ITS FALSE NEIGHBOUR: 'it returns false'. Refute it at one input. -/
def glossFillsWrong : ChangeSpec := { name := "glossFills", fn := fun _ => fun
  | [d1, d2, d3, d4, d5] => { results := [.lit (.bool false)], args := [d1, d2, d3, d4, d5] }
  | _ => none }
def GlossFillsWrongFalsely : Prop := glossFillsRow.holds Tryz.pinned (OpenSpec.ofChange glossFillsWrong)

/-- 'langdoclaw32.GlossAlls': WHATEVER THE INPUT: true; the input reads as it did. -/
def glossAllsSpec : ChangeSpec := { name := "glossAlls", fn := fun _ => fun
  | [d1, d2, d3, d4] => { results := [.lit (.bool true)], args := [d1, d2, d3, d4] }
  | _ => none }
def glossAllsRow : OpenClaim := { program := "ytknekjalbninmaagreat", sum := "dbe089f8cd768a2c2a5066c081dac7f62c885291beeb60cfc5c8de3984e4477f", func := "langdoc/langdoclaw32.GlossAlls", spec := "glossAlls", inPlace := ["internal/abi.NoEscape"], unfollowed := true, recurses := true, apart := false }
def GlossAllsSaid : Prop := glossAllsRow.holds Tryz.pinned (OpenSpec.ofChange glossAllsSpec)

/-- ITS FALSE NEIGHBOUR: 'it returns false'. Refute it at one input. -/
def glossAllsWrong : ChangeSpec := { name := "glossAlls", fn := fun _ => fun
  | [d1, d2, d3, d4] => { results := [.lit (.bool false)], args := [d1, d2, d3, d4] }
  | _ => none }
def GlossAllsWrongFalsely : Prop := glossAllsRow.holds Tryz.pinned (OpenSpec.ofChange glossAllsWrong)

/-- 'langdoclaw32.GlossWrongs': WHATEVER THE INPUT: true; the input reads as it did. -/
def glossWrongsSpec : ChangeSpec := { name := "glossWrongs", fn := fun _ => fun
  | [d1, d2, d3] => { results := [.lit (.bool true)], args := [d1, d2, d3] }
  | _ => none }
def glossWrongsRow : OpenClaim := { program := "ytknekjalbninmaagreat", sum := "dbe089f8cd768a2c2a5066c081dac7f62c885291beeb60cfc5c8de3984e4477f", func := "langdoc/langdoclaw32.GlossWrongs", spec := "glossWrongs", inPlace := ["internal/abi.NoEscape"], unfollowed := true, recurses := true, apart := false }
def GlossWrongsSaid : Prop := glossWrongsRow.holds Tryz.pinned (OpenSpec.ofChange glossWrongsSpec)

/-- ITS FALSE NEIGHBOUR: 'it returns false'. Refute it at one input. -/
def glossWrongsWrong : ChangeSpec := { name := "glossWrongs", fn := fun _ => fun
  | [d1, d2, d3] => { results := [.lit (.bool false)], args := [d1, d2, d3] }
  | _ => none }
def GlossWrongsWrongFalsely : Prop := glossWrongsRow.holds Tryz.pinned (OpenSpec.ofChange glossWrongsWrong)

/-- 'langdoclaw32.GlossLicensed': WHATEVER THE INPUT: true; the input reads as it did. -/
def glossLicensedSpec : ChangeSpec := { name := "glossLicensed", fn := fun _ => fun
  | [d1, d2, d3, d4] => { results := [.lit (.bool true)], args := [d1, d2, d3, d4] }
  | _ => none }
def glossLicensedRow : OpenClaim := { program := "ytknekjalbninmaagreat", sum := "dbe089f8cd768a2c2a5066c081dac7f62c885291beeb60cfc5c8de3984e4477f", func := "langdoc/langdoclaw32.GlossLicensed", spec := "glossLicensed", inPlace := ["internal/abi.NoEscape"], unfollowed := true, recurses := true, apart := false }
def GlossLicensedSaid : Prop := glossLicensedRow.holds Tryz.pinned (OpenSpec.ofChange glossLicensedSpec)

/-- ITS FALSE NEIGHBOUR: 'it returns false'. Refute it at one input. -/
def glossLicensedWrong : ChangeSpec := { name := "glossLicensed", fn := fun _ => fun
  | [d1, d2, d3, d4] => { results := [.lit (.bool false)], args := [d1, d2, d3, d4] }
  | _ => none }
def GlossLicensedWrongFalsely : Prop := glossLicensedRow.holds Tryz.pinned (OpenSpec.ofChange glossLicensedWrong)

/-- 'langdoclaw32.GlossKeeps': WHATEVER THE INPUT: true; the input reads as it did. -/
def glossKeepsSpec : ChangeSpec := { name := "glossKeeps", fn := fun _ => fun
  | [d1, d2, d3, d4, d5] => { results := [.lit (.bool true)], args := [d1, d2, d3, d4, d5] }
  | _ => none }
def glossKeepsRow : OpenClaim := { program := "ytknekjalbninmaagreat", sum := "dbe089f8cd768a2c2a5066c081dac7f62c885291beeb60cfc5c8de3984e4477f", func := "langdoc/langdoclaw32.GlossKeeps", spec := "glossKeeps", inPlace := ["internal/abi.NoEscape"], unfollowed := true, recurses := true, apart := false }
def GlossKeepsSaid : Prop := glossKeepsRow.holds Tryz.pinned (OpenSpec.ofChange glossKeepsSpec)

/-- ITS FALSE NEIGHBOUR: 'it returns false'. Refute it at one input. -/
def glossKeepsWrong : ChangeSpec := { name := "glossKeeps", fn := fun _ => fun
  | [d1, d2, d3, d4, d5] => { results := [.lit (.bool false)], args := [d1, d2, d3, d4, d5] }
  | _ => none }
def GlossKeepsWrongFalsely : Prop := glossKeepsRow.holds Tryz.pinned (OpenSpec.ofChange glossKeepsWrong)

/-- 'langdoclaw32.GlossAgain': WHATEVER THE INPUT: true; the input reads as it did. -/
def glossAgainSpec : ChangeSpec := { name := "glossAgain", fn := fun _ => fun
  | [d1, d2, d3, d4] => { results := [.lit (.bool true)], args := [d1, d2, d3, d4] }
  | _ => none }
def glossAgainRow : OpenClaim := { program := "ytknekjalbninmaagreat", sum := "dbe089f8cd768a2c2a5066c081dac7f62c885291beeb60cfc5c8de3984e4477f", func := "langdoc/langdoclaw32.GlossAgain", spec := "glossAgain", inPlace := ["internal/abi.NoEscape"], unfollowed := true, recurses := true, apart := false }
def GlossAgainSaid : Prop := glossAgainRow.holds Tryz.pinned (OpenSpec.ofChange glossAgainSpec)

/-- ITS FALSE NEIGHBOUR: 'it returns false'. Refute it at one input. -/
def glossAgainWrong : ChangeSpec := { name := "glossAgain", fn := fun _ => fun
  | [d1, d2, d3, d4] => { results := [.lit (.bool false)], args := [d1, d2, d3, d4] }
  | _ => none }
def GlossAgainWrongFalsely : Prop := glossAgainRow.holds Tryz.pinned (OpenSpec.ofChange glossAgainWrong)

/- THE SECOND FORM. 'bulk': how many values and letters a reading holds, each counted each time it is reached (what is shared counts as often as it is met; a slice's spare places count too). A statement '..UptoSaid' is the law's where the arguments, and the package variables that the reading takes, are together of bulk at most 1048576: NARROWER than '..Said'. Prove '..Said' where nothing that the law and all that it calls make is longer than what came in: it says more and counts as full. Else prove '..UptoSaid'. A law counts once. -/
mutual
def uptoBulk {H : Type} : DataW H → Nat
  | .lit (.string bytes) => bytes.length + 1
  | .lit _ => 1
  | .nil => 1
  | .ptr d => uptoBulk d + 1
  | .slice elems spare => uptoBulkAll elems + uptoBulkAll spare + 1
  | .agg parts => uptoBulkAll parts + 1
  | .iface _ d => uptoBulk d + 1
  | .map entries => uptoBulkEntries entries + 1
  | .held _ => 1
def uptoBulkAll {H : Type} : List (DataW H) → Nat
  | [] => 0
  | d :: r => uptoBulk d + uptoBulkAll r
def uptoBulkEntries {H : Type} : List (Lit × DataW H) → Nat
  | [] => 0
  | x :: r => uptoBulkEntry x + uptoBulkEntries r
def uptoBulkEntry {H : Type} : Lit × DataW H → Nat
  | (.string bytes, d) => bytes.length + uptoBulk d + 1
  | (_, d) => uptoBulk d + 1
 end
def uptoSmall : (H : Type) → List (DataW H) → Bool := fun _ ds => decide (uptoBulkAll ds ≤ 1048576)
def OpenSpec.upto (s : _root_.Go.ChangeSpec) : _root_.Go.OpenSpec := { _root_.Go.OpenSpec.ofChange s with cond := some uptoSmall }

/-- 'langdoclaw32.GlossLines', WHERE WHAT IT READS IS OF BULK AT MOST 1048576: true; the input reads as it did. -/
def glossLinesUptoRow : OpenClaim := { program := "ytknekjalbninmaagreat", sum := "dbe089f8cd768a2c2a5066c081dac7f62c885291beeb60cfc5c8de3984e4477f", func := "langdoc/langdoclaw32.GlossLines", spec := "glossLines", inPlace := ["internal/abi.NoEscape"], unfollowed := true, recurses := true, apart := false, narrowed := true }
def GlossLinesUptoSaid : Prop := glossLinesUptoRow.holds Tryz.pinned (OpenSpec.upto glossLinesSpec)

/-- 'langdoclaw32.GlossShows', WHERE WHAT IT READS IS OF BULK AT MOST 1048576: true; the input reads as it did. -/
def glossShowsUptoRow : OpenClaim := { program := "ytknekjalbninmaagreat", sum := "dbe089f8cd768a2c2a5066c081dac7f62c885291beeb60cfc5c8de3984e4477f", func := "langdoc/langdoclaw32.GlossShows", spec := "glossShows", inPlace := ["internal/abi.NoEscape"], unfollowed := true, recurses := true, apart := false, narrowed := true }
def GlossShowsUptoSaid : Prop := glossShowsUptoRow.holds Tryz.pinned (OpenSpec.upto glossShowsSpec)

/-- 'langdoclaw32.GlossClears', WHERE WHAT IT READS IS OF BULK AT MOST 1048576: true; the input reads as it did. -/
def glossClearsUptoRow : OpenClaim := { program := "ytknekjalbninmaagreat", sum := "dbe089f8cd768a2c2a5066c081dac7f62c885291beeb60cfc5c8de3984e4477f", func := "langdoc/langdoclaw32.GlossClears", spec := "glossClears", inPlace := ["internal/abi.NoEscape"], unfollowed := true, recurses := true, apart := false, narrowed := true }
def GlossClearsUptoSaid : Prop := glossClearsUptoRow.holds Tryz.pinned (OpenSpec.upto glossClearsSpec)

/-- 'langdoclaw32.GlossFills', WHERE WHAT IT READS IS OF BULK AT MOST 1048576: true; the input reads as it did. -/
def glossFillsUptoRow : OpenClaim := { program := "ytknekjalbninmaagreat", sum := "dbe089f8cd768a2c2a5066c081dac7f62c885291beeb60cfc5c8de3984e4477f", func := "langdoc/langdoclaw32.GlossFills", spec := "glossFills", inPlace := ["internal/abi.NoEscape"], unfollowed := true, recurses := true, apart := false, narrowed := true }
def GlossFillsUptoSaid : Prop := glossFillsUptoRow.holds Tryz.pinned (OpenSpec.upto glossFillsSpec)

/-- 'langdoclaw32.GlossAlls', WHERE WHAT IT READS IS OF BULK AT MOST 1048576: true; the input reads as it did. -/
def glossAllsUptoRow : OpenClaim := { program := "ytknekjalbninmaagreat", sum := "dbe089f8cd768a2c2a5066c081dac7f62c885291beeb60cfc5c8de3984e4477f", func := "langdoc/langdoclaw32.GlossAlls", spec := "glossAlls", inPlace := ["internal/abi.NoEscape"], unfollowed := true, recurses := true, apart := false, narrowed := true }
def GlossAllsUptoSaid : Prop := glossAllsUptoRow.holds Tryz.pinned (OpenSpec.upto glossAllsSpec)

/-- 'langdoclaw32.GlossWrongs', WHERE WHAT IT READS IS OF BULK AT MOST 1048576: true; the input reads as it did. -/
def glossWrongsUptoRow : OpenClaim := { program := "ytknekjalbninmaagreat", sum := "dbe089f8cd768a2c2a5066c081dac7f62c885291beeb60cfc5c8de3984e4477f", func := "langdoc/langdoclaw32.GlossWrongs", spec := "glossWrongs", inPlace := ["internal/abi.NoEscape"], unfollowed := true, recurses := true, apart := false, narrowed := true }
def GlossWrongsUptoSaid : Prop := glossWrongsUptoRow.holds Tryz.pinned (OpenSpec.upto glossWrongsSpec)

/-- 'langdoclaw32.GlossLicensed', WHERE WHAT IT READS IS OF BULK AT MOST 1048576: true; the input reads as it did. -/
def glossLicensedUptoRow : OpenClaim := { program := "ytknekjalbninmaagreat", sum := "dbe089f8cd768a2c2a5066c081dac7f62c885291beeb60cfc5c8de3984e4477f", func := "langdoc/langdoclaw32.GlossLicensed", spec := "glossLicensed", inPlace := ["internal/abi.NoEscape"], unfollowed := true, recurses := true, apart := false, narrowed := true }
def GlossLicensedUptoSaid : Prop := glossLicensedUptoRow.holds Tryz.pinned (OpenSpec.upto glossLicensedSpec)

/-- 'langdoclaw32.GlossKeeps', WHERE WHAT IT READS IS OF BULK AT MOST 1048576: true; the input reads as it did. -/
def glossKeepsUptoRow : OpenClaim := { program := "ytknekjalbninmaagreat", sum := "dbe089f8cd768a2c2a5066c081dac7f62c885291beeb60cfc5c8de3984e4477f", func := "langdoc/langdoclaw32.GlossKeeps", spec := "glossKeeps", inPlace := ["internal/abi.NoEscape"], unfollowed := true, recurses := true, apart := false, narrowed := true }
def GlossKeepsUptoSaid : Prop := glossKeepsUptoRow.holds Tryz.pinned (OpenSpec.upto glossKeepsSpec)

/-- 'langdoclaw32.GlossAgain', WHERE WHAT IT READS IS OF BULK AT MOST 1048576: true; the input reads as it did. -/
def glossAgainUptoRow : OpenClaim := { program := "ytknekjalbninmaagreat", sum := "dbe089f8cd768a2c2a5066c081dac7f62c885291beeb60cfc5c8de3984e4477f", func := "langdoc/langdoclaw32.GlossAgain", spec := "glossAgain", inPlace := ["internal/abi.NoEscape"], unfollowed := true, recurses := true, apart := false, narrowed := true }
def GlossAgainUptoSaid : Prop := glossAgainUptoRow.holds Tryz.pinned (OpenSpec.upto glossAgainSpec)

end Rows
end Go.Proofs.YtknekjalbninmaaGreat

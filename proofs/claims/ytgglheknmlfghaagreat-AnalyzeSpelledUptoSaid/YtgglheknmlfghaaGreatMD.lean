/- Contracts and plain laws of this seat: part MD. It needs no conditions. -/
import Derived.Test.YtgglheknmlfghaaGreatMC
set_option linter.unusedVariables false
set_option linter.unusedSimpArgs false
set_option linter.unusedSectionVars false
set_option maxRecDepth 100000
namespace Go.V
open Go Go.Proofs
end Go.V
namespace Go.V
open Go Go.Proofs
def sN (g:Lang) (p:Prt):Nat:=(zcp g.lex p.entry).length
end Go.V
namespace Go.V
open Go Go.Proofs
theorem PlainF.pos' {g:Lang} (hg:LightF g) {w:List Int} {b:List Prt} (h:PlainF g w b) : ∀ p∈b,0<sN g p:=by
 intro p hp
 obtain ⟨e,he,alt,ha,rfl⟩:=(h.parts p hp).ok hg
 exact List.length_pos_iff.2 (hg.senses he)
end Go.V
namespace Go.V
open Go Go.Proofs
end Go.V

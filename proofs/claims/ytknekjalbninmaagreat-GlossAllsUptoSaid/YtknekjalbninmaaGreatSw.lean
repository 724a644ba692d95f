/- Contracts of the library laid at this program, in plain words (written by the shelf's own tool). It needs no conditions. -/
import Derived.Test.YtknekjalbninmaaGreatProg
import Derived.Ground.NamesProg
import Derived.Shelf.Strings.Builder1
namespace Go.Proofs
open Go.Proofs.Tryz
open Go.Shelf
def fk:Go.Shelf.Ren:=⟨λ| 169=>101 | n=>n,λ| 70=>163 | 9=>9 | 0=>0 | 72=>166 | 37=>164 | 127=>221 | 3=>3 | 5=>5 | n=>n,λ| n=>n⟩
theorem ztu:Go.Proofs.Lays.n169 prog fk:={
 mixed:=by kernel_rfl
 f169:=func101.trans (congrArg some (by kernel_rfl))
 t0:=underlying0
 a0:=isAgg0
 z0:=sizeOf0
 v0:=zeroValue0
 t3:=underlying3
 a3:=isAgg3
 z3:=sizeOf3
 v3:=zeroValue3
 t9:=underlying9
 a9:=isAgg9
 z9:=sizeOf9
 v9:=zeroValue9
 t37:=underlying164
 a37:=isAgg164
 z37:=sizeOf164
 v37:=zeroValue164
 t70:=underlying163
 a70:=isAgg163
 z70:=sizeOf163
 v70:=zeroValue163
 t72:=underlying166
 a72:=isAgg166
 z72:=sizeOf166
 v72:=zeroValue166
 t127:=underlying221
 a127:=isAgg221
 z127:=sizeOf221
 v127:=zeroValue221}
end Go.Proofs

/- Contracts of the library laid at this program, in plain words (written by the shelf's own tool). It needs no conditions. -/
import Derived.Test.YtknekjalbninmaaGreatProg
import Derived.Ground.NamesProg
import Derived.Ground.SlsfProg
import Derived.Shelf.SlSortCmp.InsertionK
namespace Go.Proofs
open Go.Proofs.Tryz
open Go.Shelf
def iS:Go.Shelf.Ren:=⟨λ| 20=>172 | n=>n,λ| 24=>72 | 22=>51 | 3=>3 | 25=>124 | 4=>4 | 0=>0 | n=>n,λ| n=>n⟩
theorem zr9:Go.Proofs.SlLaysF0.n20 prog iS:={
 mixed:=by kernel_rfl
 f20:=⟨f172.name,by decide,func172.trans (congrArg some (by kernel_rfl))⟩
 t0:=underlying0
 a0:=isAgg0
 z0:=sizeOf0
 v0:=zeroValue0
 t3:=underlying3
 a3:=isAgg3
 z3:=sizeOf3
 v3:=zeroValue3
 t4:=underlying4
 a4:=isAgg4
 z4:=sizeOf4
 v4:=zeroValue4
 t22:=underlying51
 a22:=isAgg51
 z22:=sizeOf51
 v22:=zeroValue51
 t25:=underlying124
 a25:=isAgg124
 z25:=sizeOf124
 v25:=zeroValue124}
end Go.Proofs

/- Contracts of the library laid at this program, in plain words (written by the shelf's own tool). It needs no conditions. -/
import Derived.Test.YtnjcohimpfmgcaaDoorProg
import Derived.Ground.NamesProg
import Derived.Ground.SlsfProg
import Derived.Shelf.SlSortCmp.InsertionK
namespace Go.Proofs
open Go.Shelf
def Tryd.insNote_ren : Go.Shelf.Ren := ⟨fun | 20 => 84 | n => n, fun | 24 => 39 | 22 => 30 | 3 => 3 | 25 => 64 | 4 => 4 | 0 => 0 | n => n, fun | n => n⟩
theorem Tryd.insNote : Go.Proofs.SlLaysF0.n20 Tryd.prog Tryd.insNote_ren := {
  mixed := by kernel_rfl
  f20 := ⟨Tryd.f84.name, by decide, Tryd.func84.trans (congrArg some (by kernel_rfl))⟩
  t0 := Tryd.underlying0
  a0 := Tryd.isAgg0
  z0 := Tryd.sizeOf0
  v0 := Tryd.zeroValue0
  t3 := Tryd.underlying3
  a3 := Tryd.isAgg3
  z3 := Tryd.sizeOf3
  v3 := Tryd.zeroValue3
  t4 := Tryd.underlying4
  a4 := Tryd.isAgg4
  z4 := Tryd.sizeOf4
  v4 := Tryd.zeroValue4
  t22 := Tryd.underlying30
  a22 := Tryd.isAgg30
  z22 := Tryd.sizeOf30
  v22 := Tryd.zeroValue30
  t25 := Tryd.underlying64
  a25 := Tryd.isAgg64
  z25 := Tryd.sizeOf64
  v25 := Tryd.zeroValue64 }
end Go.Proofs

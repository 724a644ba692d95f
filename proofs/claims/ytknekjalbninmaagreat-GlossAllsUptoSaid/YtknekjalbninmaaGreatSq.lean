/- Contracts of the library laid at this program, in plain words (written by the shelf's own tool). It needs no conditions. -/
import Derived.Test.YtknekjalbninmaaGreatProg
import Derived.Ground.SlsfProg
import Derived.Shelf.SlSortCmp.WholeK
namespace Go.Proofs
open Go.Proofs.Tryz
open Go.Shelf
def iB:Go.Shelf.Ren:=⟨λ| 6=>65 | 15=>122 | 14=>121 | 28=>180 | 29=>181 | 20=>172 | 21=>173 | 22=>174 | 23=>175 | 24=>176 | 25=>177 | 26=>178 | 27=>179 | 46=>210 | 47=>211 | 48=>212 | 49=>213 | 50=>214 | 57=>238 | n=>n,λ| 22=>51 | 24=>72 | 25=>124 | 3=>3 | 39=>188 | 0=>0 | 53=>217 | 55=>240 | 4=>4 | 46=>232 | 45=>231 | 50=>236 | 5=>5 | 9=>9 | 66=>262 | 70=>266 | 76=>290 | 77=>277 | n=>n,λ| n=>n⟩
theorem zpx:Go.Proofs.SlLaysF0.n6 prog iB:={
 mixed:=by kernel_rfl
 f6:=⟨f65.name,by decide,func65.trans (congrArg some (by kernel_rfl))⟩
 f14:=⟨f121.name,by decide,func121.trans (congrArg some (by kernel_rfl))⟩
 f15:=func122.trans (congrArg some (by kernel_rfl))
 f20:=⟨f172.name,by decide,func172.trans (congrArg some (by kernel_rfl))⟩
 f21:=⟨f173.name,by decide,func173.trans (congrArg some (by kernel_rfl))⟩
 f22:=⟨f174.name,by decide,func174.trans (congrArg some (by kernel_rfl))⟩
 f23:=⟨f175.name,by decide,func175.trans (congrArg some (by kernel_rfl))⟩
 f24:=⟨f176.name,by decide,func176.trans (congrArg some (by kernel_rfl))⟩
 f25:=⟨f177.name,by decide,func177.trans (congrArg some (by kernel_rfl))⟩
 f26:=⟨f178.name,by decide,func178.trans (congrArg some (by kernel_rfl))⟩
 f27:=⟨f179.name,by decide,func179.trans (congrArg some (by kernel_rfl))⟩
 f28:=func180.trans (congrArg some (by kernel_rfl))
 f29:=func181.trans (congrArg some (by kernel_rfl))
 f46:=⟨f210.name,by decide,func210.trans (congrArg some (by kernel_rfl))⟩
 f47:=func211.trans (congrArg some (by kernel_rfl))
 f48:=func212.trans (congrArg some (by kernel_rfl))
 f49:=⟨f213.name,by decide,func213.trans (congrArg some (by kernel_rfl))⟩
 f50:=⟨f214.name,by decide,func214.trans (congrArg some (by kernel_rfl))⟩
 f57:=⟨f238.name,by decide,func238.trans (congrArg some (by kernel_rfl))⟩
 t0:=underlying0
 a0:=isAgg0
 z0:=sizeOf0
 v0:=zeroValue0
 t3:=underlying3
 a3:=isAgg3
 z3:=sizeOf3
 v3:=zeroValue3
 t4:=underlying4
 a4:=isAgg4
 z4:=sizeOf4
 v4:=zeroValue4
 t5:=underlying5
 a5:=isAgg5
 z5:=sizeOf5
 v5:=zeroValue5
 t9:=underlying9
 a9:=isAgg9
 z9:=sizeOf9
 v9:=zeroValue9
 t22:=underlying51
 a22:=isAgg51
 z22:=sizeOf51
 v22:=zeroValue51
 t25:=underlying124
 a25:=isAgg124
 z25:=sizeOf124
 v25:=zeroValue124
 t39:=underlying188
 a39:=isAgg188
 z39:=sizeOf188
 v39:=zeroValue188
 t45:=underlying231
 a45:=isAgg231
 z45:=sizeOf231
 v45:=zeroValue231
 t46:=underlying232
 a46:=isAgg232
 z46:=sizeOf232
 v46:=zeroValue232
 t50:=underlying236
 a50:=isAgg236
 z50:=sizeOf236
 v50:=zeroValue236
 t53:=underlying217
 a53:=isAgg217
 z53:=sizeOf217
 v53:=zeroValue217
 t55:=underlying240
 a55:=isAgg240
 z55:=sizeOf240
 v55:=zeroValue240
 t66:=underlying262
 a66:=isAgg262
 z66:=sizeOf262
 v66:=zeroValue262
 t70:=underlying266
 a70:=isAgg266
 z70:=sizeOf266
 v70:=zeroValue266
 t76:=underlying290
 a76:=isAgg290
 z76:=sizeOf290
 v76:=zeroValue290
 t77:=underlying277
 a77:=isAgg277
 z77:=sizeOf277
 v77:=zeroValue277}
end Go.Proofs

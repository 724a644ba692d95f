/- Contracts of the library laid at this program, in plain words (written by the shelf's own tool). It needs no conditions. -/
import Derived.Test.YtknekjalbninmaaGreatProg
import Derived.Ground.NamesProg
import Derived.Shelf.Sort.Plain
namespace Go.Proofs
open Go.Proofs.Tryz
open Go.Shelf
def iQ:Go.Shelf.Ren:=⟨λ| 189=>187 | 125=>122 | 257=>225 | 128=>180 | 129=>181 | 294=>248 | 295=>249 | 296=>250 | 297=>251 | 298=>252 | 299=>253 | 216=>254 | 300=>255 | 301=>256 | 328=>277 | 329=>211 | 330=>212 | 331=>278 | 332=>279 | 215=>123 | 343=>290 | n=>n,λ| 28=>31 | 3=>3 | 46=>188 | 0=>0 | 51=>217 | 53=>240 | 4=>4 | 183=>232 | 182=>231 | 131=>236 | 5=>5 | 9=>9 | 218=>262 | 222=>266 | 228=>290 | 229=>277 | n=>n,λ| n=>n⟩
theorem lR:Go.Proofs.Lays.n189 prog iQ:={
 mixed:=by kernel_rfl
 f125:=func122.trans (congrArg some (by kernel_rfl))
 f128:=func180.trans (congrArg some (by kernel_rfl))
 f129:=func181.trans (congrArg some (by kernel_rfl))
 f189:=func187.trans (congrArg some (by kernel_rfl))
 f215:=func123.trans (congrArg some (by kernel_rfl))
 f216:=func254.trans (congrArg some (by kernel_rfl))
 f257:=func225.trans (congrArg some (by kernel_rfl))
 f294:=func248.trans (congrArg some (by kernel_rfl))
 f295:=func249.trans (congrArg some (by kernel_rfl))
 f296:=func250.trans (congrArg some (by kernel_rfl))
 f297:=func251.trans (congrArg some (by kernel_rfl))
 f298:=func252.trans (congrArg some (by kernel_rfl))
 f299:=func253.trans (congrArg some (by kernel_rfl))
 f300:=func255.trans (congrArg some (by kernel_rfl))
 f301:=func256.trans (congrArg some (by kernel_rfl))
 f328:=func277.trans (congrArg some (by kernel_rfl))
 f329:=func211.trans (congrArg some (by kernel_rfl))
 f330:=func212.trans (congrArg some (by kernel_rfl))
 f331:=func278.trans (congrArg some (by kernel_rfl))
 f332:=func279.trans (congrArg some (by kernel_rfl))
 f343:=func290.trans (congrArg some (by kernel_rfl))
 t0:=underlying0
 a0:=isAgg0
 z0:=sizeOf0
 v0:=zeroValue0
 t3:=underlying3
 a3:=isAgg3
 z3:=sizeOf3
 v3:=zeroValue3
 t4:=underlying4
 a4:=isAgg4
 z4:=sizeOf4
 v4:=zeroValue4
 t5:=underlying5
 a5:=isAgg5
 z5:=sizeOf5
 v5:=zeroValue5
 t9:=underlying9
 a9:=isAgg9
 z9:=sizeOf9
 v9:=zeroValue9
 t28:=underlying31
 a28:=isAgg31
 z28:=sizeOf31
 v28:=zeroValue31
 t46:=underlying188
 a46:=isAgg188
 z46:=sizeOf188
 v46:=zeroValue188
 t51:=underlying217
 a51:=isAgg217
 z51:=sizeOf217
 v51:=zeroValue217
 t53:=underlying240
 a53:=isAgg240
 z53:=sizeOf240
 v53:=zeroValue240
 t131:=underlying236
 a131:=isAgg236
 z131:=sizeOf236
 v131:=zeroValue236
 t182:=underlying231
 a182:=isAgg231
 z182:=sizeOf231
 v182:=zeroValue231
 t183:=underlying232
 a183:=isAgg232
 z183:=sizeOf232
 v183:=zeroValue232
 t218:=underlying262
 a218:=isAgg262
 z218:=sizeOf262
 v218:=zeroValue262
 t222:=underlying266
 a222:=isAgg266
 z222:=sizeOf266
 v222:=zeroValue266
 t228:=underlying290
 a228:=isAgg290
 z228:=sizeOf290
 v228:=zeroValue290
 t229:=underlying277
 a229:=isAgg277
 z229:=sizeOf277
 v229:=zeroValue277}
end Go.Proofs

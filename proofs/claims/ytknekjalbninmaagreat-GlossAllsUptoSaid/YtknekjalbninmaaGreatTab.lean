/- What the types of the program are to the logic of V1 .. V25, and that its functions can be called: closed facts, printed by a program of mine. -/
import Derived.Test.YtknekjalbninmaaGreatV25
import Derived.Test.YtknekjalbninmaaGreatProg
import Derived.KernelRfl
set_option linter.all false
namespace Go.V
open Go Go.Proofs Tryz
set_option maxRecDepth 100000
theorem mixed:prog.follows .mixedOrders=true:=by kernel_rfl
@[simp] theorem lZ:TI.of prog 3=some ⟨.int .i64,1,8,false,[.int .i64 0]⟩:=by kernel_rfl
@[simp] theorem ti_4:TI.of prog 4=some ⟨.bool,1,1,false,[.bool false]⟩:=by kernel_rfl
@[simp] theorem ti_5:TI.of prog 5=some ⟨.int .u8,1,1,false,[.int .u8 0]⟩:=by kernel_rfl
@[simp] theorem ti_9:TI.of prog 9=some ⟨.str,1,16,false,[.string ⟨#[]⟩]⟩:=by kernel_rfl
@[simp] theorem ti_22:TI.of prog 22=some ⟨.slice 152,1,24,false,[.slice none 0 0]⟩:=by kernel_rfl
@[simp] theorem ti_24:TI.of prog 24=some ⟨.struct [(0,1,false)],1,24,true,[.slice none 0 0]⟩:=by kernel_rfl
@[simp] theorem ti_25:TI.of prog 25=some ⟨.slice 143,1,24,false,[.slice none 0 0]⟩:=by kernel_rfl
@[simp] theorem ti_26:TI.of prog 26=some ⟨.slice 42,1,24,false,[.slice none 0 0]⟩:=by kernel_rfl
@[simp] theorem ti_28:TI.of prog 28=some ⟨.struct [(0,1,false),(1,1,false),(2,1,false)],3,64,true,[.string ⟨#[]⟩,.slice none 0 0,.slice none 0 0]⟩:=by kernel_rfl
@[simp] theorem ti_29:TI.of prog 29=some ⟨.slice 90,1,24,false,[.slice none 0 0]⟩:=by kernel_rfl
@[simp] theorem ti_30:TI.of prog 30=some ⟨.slice 156,1,24,false,[.slice none 0 0]⟩:=by kernel_rfl
@[simp] theorem mr:TI.of prog 31=some ⟨.slice 3,1,24,false,[.slice none 0 0]⟩:=by kernel_rfl
@[simp] theorem ti_33:TI.of prog 33=some ⟨.struct [(0,1,false),(1,1,false),(2,1,false)],3,56,true,[.int .i64 0,.slice none 0 0,.slice none 0 0]⟩:=by kernel_rfl
@[simp] theorem ti_34:TI.of prog 34=some ⟨.slice 102,1,24,false,[.slice none 0 0]⟩:=by kernel_rfl
@[simp] theorem ti_36:TI.of prog 36=some ⟨.struct [(0,1,true),(1,3,true),(4,1,false),(5,3,true),(8,1,false)],9,192,true,[.slice none 0 0,.string ⟨#[]⟩,.slice none 0 0,.slice none 0 0,.slice none 0 0,.int .i64 0,.slice none 0 0,.slice none 0 0,.slice none 0 0]⟩:=by kernel_rfl
@[simp] theorem ti_37:TI.of prog 37=some ⟨.slice 96,1,24,false,[.slice none 0 0]⟩:=by kernel_rfl
@[simp] theorem ti_39:TI.of prog 39=some ⟨.struct [(0,1,false)],1,24,true,[.slice none 0 0]⟩:=by kernel_rfl
@[simp] theorem ti_42:TI.of prog 42=some ⟨.slice 9,1,24,false,[.slice none 0 0]⟩:=by kernel_rfl
@[simp] theorem ti_43:TI.of prog 43=some ⟨.int .i64,1,8,false,[.int .i64 0]⟩:=by kernel_rfl
@[simp] theorem ti_49:TI.of prog 49=some ⟨.struct [(0,1,false),(1,1,false),(2,1,false),(3,1,false),(4,1,false)],5,64,true,[.int .i64 0,.string ⟨#[]⟩,.int .i64 0,.int .i64 0,.slice none 0 0]⟩:=by kernel_rfl
@[simp] theorem ti_50:TI.of prog 50=some ⟨.slice 74,1,24,false,[.slice none 0 0]⟩:=by kernel_rfl
@[simp] theorem ti_51:TI.of prog 51=some ⟨.slice 72,1,24,false,[.slice none 0 0]⟩:=by kernel_rfl
@[simp] theorem ti_53:TI.of prog 53=some ⟨.struct [(0,5,true),(5,1,false),(6,1,false)],7,112,true,[.int .i64 0,.string ⟨#[]⟩,.int .i64 0,.int .i64 0,.slice none 0 0,.slice none 0 0,.slice none 0 0]⟩:=by kernel_rfl
@[simp] theorem ti_64:TI.of prog 64=some ⟨.slice 139,1,24,false,[.slice none 0 0]⟩:=by kernel_rfl
@[simp] theorem ti_70:TI.of prog 70=some ⟨.struct [(0,1,false),(1,1,false)],2,16,true,[.int .i64 0,.int .i64 0]⟩:=by kernel_rfl
@[simp] theorem ti_72:TI.of prog 72=some ⟨.struct [(0,1,false),(1,1,false),(2,1,false),(3,2,true),(5,1,false),(6,1,false)],7,64,true,[.int .i64 0,.int .i64 0,.int .i64 0,.int .i64 0,.int .i64 0,.int .i64 0,.string ⟨#[]⟩]⟩:=by kernel_rfl
@[simp] theorem ti_74:TI.of prog 74=some ⟨.struct [(0,1,false),(1,1,false),(2,1,false),(3,1,false)],4,40,true,[.string ⟨#[]⟩,.int .i64 0,.int .i64 0,.int .i64 0]⟩:=by kernel_rfl
@[simp] theorem ti_78:TI.of prog 78=some ⟨.struct [(0,1,false),(1,1,false)],2,16,true,[.int .i64 0,.int .i64 0]⟩:=by kernel_rfl
@[simp] theorem ti_88:TI.of prog 88=some ⟨.slice 154,1,24,false,[.slice none 0 0]⟩:=by kernel_rfl
@[simp] theorem ti_90:TI.of prog 90=some ⟨.struct [(0,1,false),(1,1,false),(2,1,false),(3,1,false),(4,1,false),(5,1,false)],6,104,true,[.slice none 0 0,.slice none 0 0,.slice none 0 0,.slice none 0 0,.bool false,.bool false]⟩:=by kernel_rfl
@[simp] theorem ti_96:TI.of prog 96=some ⟨.struct [(0,1,false),(1,1,false),(2,1,false)],3,24,true,[.int .i64 0,.int .i64 0,.int .i64 0]⟩:=by kernel_rfl
@[simp] theorem ti_97:TI.of prog 97=some ⟨.slice 31,1,24,false,[.slice none 0 0]⟩:=by kernel_rfl
@[simp] theorem ti_98:TI.of prog 98=some ⟨.slice 109,1,24,false,[.slice none 0 0]⟩:=by kernel_rfl
@[simp] theorem ti_99:TI.of prog 99=some ⟨.slice 213,1,24,false,[.slice none 0 0]⟩:=by kernel_rfl
@[simp] theorem ti_100:TI.of prog 100=some ⟨.slice 78,1,24,false,[.slice none 0 0]⟩:=by kernel_rfl
@[simp] theorem ti_102:TI.of prog 102=some ⟨.struct [(0,1,false),(1,1,false),(2,1,false),(3,1,false),(4,1,false),(5,1,false),(6,1,false),(7,1,false)],8,144,true,[.int .i64 0,.slice none 0 0,.int .i64 0,.slice none 0 0,.int .i64 0,.slice none 0 0,.slice none 0 0,.slice none 0 0]⟩:=by kernel_rfl
@[simp] theorem ti_109:TI.of prog 109=some ⟨.struct [(0,1,false),(1,1,false)],2,32,true,[.string ⟨#[]⟩,.string ⟨#[]⟩]⟩:=by kernel_rfl
@[simp] theorem ti_112:TI.of prog 112=some ⟨.struct [(0,1,false),(1,1,false),(2,1,false)],3,24,true,[.int .i64 0,.int .i64 0,.int .i64 0]⟩:=by kernel_rfl
@[simp] theorem ti_127:TI.of prog 127=some ⟨.struct [(0,1,false)],1,8,true,[.int .i64 0]⟩:=by kernel_rfl
@[simp] theorem ti_131:TI.of prog 131=some ⟨.struct [(0,2,true),(2,1,false),(3,1,true)],4,48,true,[.int .i64 0,.int .i64 0,.int .i64 0,.slice none 0 0]⟩:=by kernel_rfl
@[simp] theorem ti_139:TI.of prog 139=some ⟨.struct [(0,2,true),(2,1,false),(3,1,true)],4,48,true,[.int .i64 0,.int .i64 0,.bool false,.slice none 0 0]⟩:=by kernel_rfl
@[simp] theorem ti_143:TI.of prog 143=some ⟨.struct [(0,1,false),(1,1,false)],2,40,true,[.string ⟨#[]⟩,.slice none 0 0]⟩:=by kernel_rfl
@[simp] theorem ti_152:TI.of prog 152=some ⟨.struct [(0,1,false),(1,1,false)],2,24,true,[.string ⟨#[]⟩,.int .i64 0]⟩:=by kernel_rfl
@[simp] theorem ti_154:TI.of prog 154=some ⟨.struct [(0,1,false),(1,1,false)],2,16,true,[.int .i64 0,.int .i64 0]⟩:=by kernel_rfl
@[simp] theorem ti_156:TI.of prog 156=some ⟨.struct [(0,1,false),(1,1,false),(2,1,false)],3,24,true,[.int .i64 0,.int .i64 0,.int .i64 0]⟩:=by kernel_rfl
@[simp] theorem ti_164:TI.of prog 164=some ⟨.slice 5,1,24,false,[.slice none 0 0]⟩:=by kernel_rfl
@[simp] theorem ti_166:TI.of prog 166=some ⟨.struct [(0,1,false),(1,1,false)],2,32,true,[.pointer none,.slice none 0 0]⟩:=by kernel_rfl
@[simp] theorem ti_182:TI.of prog 182=some ⟨.map 3 31,1,8,false,[.map none]⟩:=by kernel_rfl
@[simp] theorem ti_183:TI.of prog 183=some ⟨.iP,1,8,false,[.nilFunc]⟩:=by kernel_rfl
@[simp] theorem ti_188:TI.of prog 188=some ⟨.int .u64,1,8,false,[.int .u64 0]⟩:=by kernel_rfl
@[simp] theorem ti_201:TI.of prog 201=some ⟨.slice 70,1,24,false,[.slice none 0 0]⟩:=by kernel_rfl
@[simp] theorem ti_213:TI.of prog 213=some ⟨.struct [(0,1,false),(1,1,false)],2,16,true,[.int .i64 0,.int .i64 0]⟩:=by kernel_rfl
@[simp] theorem ti_217:TI.of prog 217=some ⟨.int .u32,1,4,false,[.int .u32 0]⟩:=by kernel_rfl
@[simp] theorem ti_218:TI.of prog 218=some ⟨.int .u32,1,4,false,[.int .u32 0]⟩:=by kernel_rfl
@[simp] theorem ti_224:TI.of prog 224=some ⟨.slice 4,1,24,false,[.slice none 0 0]⟩:=by kernel_rfl
@[simp] theorem ti_240:TI.of prog 240=some ⟨.int .u64,1,8,false,[.int .u64 0]⟩:=by kernel_rfl
@[simp] theorem ti_241:TI.of prog 241=some ⟨.slice 39,1,24,false,[.slice none 0 0]⟩:=by kernel_rfl
@[simp] theorem ti_272:TI.of prog 272=some ⟨.iP,1,8,false,[.nilFunc]⟩:=by kernel_rfl
@[simp] theorem ti_311:TI.of prog 311=some ⟨.iP,1,8,false,[.nilFunc]⟩:=by kernel_rfl
@[simp] theorem ti_319:TI.of prog 319=some ⟨.struct [(0,1,true),(1,1,false)],2,48,true,[.slice none 0 0,.slice none 0 0]⟩:=by kernel_rfl
@[simp] theorem ti_325:TI.of prog 325=some ⟨.map 9 4,1,8,false,[.map none]⟩:=by kernel_rfl
@[simp] theorem ti_327:TI.of prog 327=some ⟨.struct [(0,9,true),(9,1,false),(10,1,false),(11,1,false),(12,1,false),(13,1,false)],14,240,true,[.slice none 0 0,.string ⟨#[]⟩,.slice none 0 0,.slice none 0 0,.slice none 0 0,.int .i64 0,.slice none 0 0,.slice none 0 0,.slice none 0 0,.slice none 0 0,.bool false,.int .u32 0,.map none,.nilFunc]⟩:=by kernel_rfl
@[simp] theorem ek_70:dl prog 70=some [.int .i64,.int .i64]:=by kernel_rfl
@[simp] theorem ek_72:dl prog 72=some [.int .i64,.int .i64,.int .i64,.int .i64,.int .i64,.int .i64,.str]:=by kernel_rfl
@[simp] theorem ek_74:dl prog 74=some [.str,.int .i64,.int .i64,.int .i64]:=by kernel_rfl
@[simp] theorem ek_78:dl prog 78=some [.int .i64,.int .i64]:=by kernel_rfl
@[simp] theorem ek_96:dl prog 96=some [.int .i64,.int .i64,.int .i64]:=by kernel_rfl
@[simp] theorem ek_154:dl prog 154=some [.int .i64,.int .i64]:=by kernel_rfl
@[simp] theorem ek_156:dl prog 156=some [.int .i64,.int .i64,.int .i64]:=by kernel_rfl
@[simp] theorem ek_213:dl prog 213=some [.int .i64,.int .i64]:=by kernel_rfl
theorem c_28:aN prog 28=true:=by kernel_rfl
theorem c_45:aN prog 45=true:=by kernel_rfl
theorem c_59:aN prog 59=true:=by kernel_rfl
theorem c_65:aN prog 65=true:=by kernel_rfl
theorem mY:aN prog 70=true:=by kernel_rfl
theorem c_71:aN prog 71=true:=by kernel_rfl
theorem mN:aN prog 172=true:=by kernel_rfl
theorem nu:aN prog 187=true:=by kernel_rfl
theorem nl:aN prog 203=true:=by kernel_rfl
theorem nv:aN prog 216=true:=by kernel_rfl
theorem mu:aN prog 224=true:=by kernel_rfl
theorem nB:aN prog 226=true:=by kernel_rfl
theorem mZ:aN prog 229=true:=by kernel_rfl
theorem mT:aN prog 239=true:=by kernel_rfl
theorem nw:aN prog 269=true:=by kernel_rfl
theorem mh:aN prog 273=true:=by kernel_rfl
theorem lE:aN prog 275=true:=by kernel_rfl
theorem mO:aN prog 288=true:=by kernel_rfl
theorem bN{α:Type}{l:List α}{k:Nat}(h:k<l.length):∃ x,l[k]=x/\l[k]?=some x:=⟨_,rfl,ac h⟩
theorem bG{a b:Nat}(h:a<b):(a:Int)<b:=Int.ofNat_lt.2 h
section
variable [Dr] [Ov] {st:St} {Q:DE->St->Prop} {f:Nat} {fn:Func} {c:Code} {α:Type}
theorem aF(H:prog.funcs[f]?=some fn){args:List D}{r:D}(h:ev prog c (cJ (eF prog fn.results.toList r)) (ct fn.ntmps args))(G:fn.body=some c:=by rfl)(F:aN prog f=true:=by kernel_rfl):aq prog f args r:=ip mixed H G F h
theorem fY(H:prog.funcs[f]?=some fn){args:List D}{r:D}(aD:List Nat)(h:ev prog c (cJ (lY aD (eF prog fn.results.toList r))) (ct fn.ntmps args))(G:fn.body=some c:=by rfl)(F:aN prog f=true:=by kernel_rfl):aq prog f args r:=fE mixed H G F aD h
theorem dW(H:prog.funcs[f]?=some fn){args:List D}{Φ:D->Prop}(h:ev prog c (cJ (ld prog fn.results.toList Φ)) (ct fn.ntmps args))(G:fn.body=some c:=by rfl)(F:aN prog f=true:=by kernel_rfl):cu prog f args Φ:=iy mixed H G F h
theorem dd(H:prog.funcs[f]?=some fn){args:List ah}{own:List (Nat×am)}{n:Nat}{s:ah}{nx:Nat}{own':List (Nat×am)}{mv:List Nat}(G:ah.a_ n args)(h:ev prog c (cJ (fF prog fn.results.toList n s nx own' mv)) (cz fn.ntmps args own n))(F:fn.body=some c:=by rfl)(E:aN prog f=true:=by kernel_rfl):aU prog f args own n s nx own' mv:=gS mixed H F E G h
theorem lh(H:prog.funcs[f]?=some fn){args:List D}{T sz:Nat}{rows:List (List D)}(G:∀ r∈rows,r.length=sz)(h:ev prog c (cJ (lH fn.results.toList T sz rows)) (ct fn.ntmps args))(F:fn.body=some c:=by rfl)(E:aN prog f=true:=by kernel_rfl):eG prog f args T sz rows:=gT mixed H F E G h
def cy:=bF (P:=prog) (c:=c) (Q:=Q) (st:=st) mixed
def cl:=hZ (P:=prog) (c:=c) (Q:=Q) (st:=st) (α:=α) mixed
def dg(S:Nat->St)(n:Nat):=hZ (P:=prog) (c:=c) (Q:=Q) (st:=st) mixed S (λk=>k<=n) (λk=>n-k) 0 (nU n)
end
end Go.V

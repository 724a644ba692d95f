/- A program logic of my own over the kit: part X4. It needs no conditions. -/
import Derived.Test.YtknekjalbninmaaGreatV31
set_option linter.unusedVariables false
set_option linter.unusedSimpArgs false
set_option linter.unusedSectionVars false
namespace Go.V
variable [Dr] [Ov]
open Go.RowKit
inductive Tr where
 |leaf
 |node (v:Option Sym) (l r:Tr)
 deriving Inhabited
def Tr.get:Nat->Tr->Nat->Option Sym
 |0,_,_=>none
 |_+1,.leaf,_=>none
 |k+1,.node v l r,t=>match t with
  |0=>v
  |u+1=>match Nat.beq (u%2) 0 with
   |true=>Tr.get k l (u/2)
   |false=>Tr.get k r (u/2)
def Tr.put:Nat->Tr->Nat->Sym->Tr
 |0,x,_,_=>x
 |k+1,x,t,s=>match x with
  |.leaf=>match t with
   |0=>.node (some s) .leaf .leaf
   |u+1=>match Nat.beq (u%2) 0 with
    |true=>.node none (Tr.put k .leaf (u/2) s) .leaf
    |false=>.node none .leaf (Tr.put k .leaf (u/2) s)
  |.node v l r=>match t with
   |0=>.node (some s) l r
   |u+1=>match Nat.beq (u%2) 0 with
    |true=>.node v (Tr.put k l (u/2) s) r
    |false=>.node v l (Tr.put k r (u/2) s)
def Tr.map(f:Sym->Sym):Tr->Tr
 |.leaf=>.leaf
 |.node v l r=>.node (v.map f) (Tr.map f l) (Tr.map f r)
def qR(i:Nat)(l:List Nat):List Nat:=match l.any (Nat.beq i) with
 |true=>l
 |false=>l++[i]
structure XS where
 n:Nat
 next:Nat
 slots:Tr
 own:List (Nat×Obj')
 base:Nat
 moved:List Nat
 deriving Inhabited
def dep:Nat:=12
def XS.get(xs:XS)(t:Nat):Option Sym:=xs.slots.get dep t
def vm{α:Type}:List (Nat×α)->Nat->Option α
 | [],_=>none
 |(k,v)::r,t=>match Nat.beq k t with
  |true=>some v
  |false=>vm r t
def XS.look(xs:XS)(id:Nat):Option Obj':=vm xs.own id
def XS.val(xs:XS):Operand->Sym
 |.tmp t=>match xs.get t with
  |some s=>s
  |none=>.junk
 |.const v=>ofConst v
 |.func f=>.fn f []
 |.global g=>match za GT g with
  |some l=>.d (.ptr l)
  |none=>.junk
def XS.put(xs:XS)(dst:Option Tmp)(s:Sym):XS:=
 match dst with
 |some t=>{xs with slots:=xs.slots.put dep t s}
 |none=>xs
def XS.new(xs:XS)(o:Obj'):XS:={xs with next:=xs.next+1,own:=(xs.next,o)::xs.own}
def YM(id:Nat)(v:Obj'):List (Nat×Obj')->List (Nat×Obj')
 | []=>[(id,v)]
 |(k,u)::r=>match Nat.beq k id with
  |true=>(k,v)::r
  |false=>(k,u)::YM id v r
def XS.set(xs:XS)(id:Nat)(o:Obj'):XS:={xs with own:=YM id o xs.own}
def XS.xm(xs:XS)(id:Nat):XS:=
 match xs.look id with
 |some (.arr _ _ rows)=>{xs with slots:=xs.slots.map (thaw id (.sl rows)),own:=xw id (.sl rows) xs.own}
 |some (.map _ rows)=>{xs with slots:=xs.slots.map (thaw id (.mp rows)),own:=xw id (.mp rows) xs.own}
 |_=>xs
def XS.zH(xs:XS):List Nat->XS
 | []=>xs
 |id::r=>(xs.xm id).zH r
def XS.renew(xs:XS)(id:Nat)(o:Obj'):XS:={xs with moved:=(match Nat.blt id xs.base with | true=>qR id xs.moved | false=>xs.moved),slots:=xs.slots.map (zo id),own:=xJ id o xs.own}
structure XR where
 s:Sym
 nx:Nat
 own:List (Nat×Obj')
 mv:List Nat
structure XG where
 ti:Nat->Option TI
 zf:Nat->Bool
 ek:Nat->Option (List TK)
 fn:Nat->Option (Nat×Code×List ResultVar)
 sc:Nat->Bool
 kn:Nat->Option (List D->Option D)
 kc:Nat->Option (List Sym->List (Nat×Obj')->Nat->Option XR):=λ_=>none
 mf:Nat->Bool:=λ_=>false
def zu{α:Type}(b:Bool)(x:Option α):Option α:=match b with
 |true=>x
 |false=>none
def JO(ti:TI)(l:List D):Option Sym:=
 match ti.agg with
 |true=>zu (Nat.ble ti.size l.length) (some (.d (.agg (l.take ti.size))))
 |false=>match l with
  |x::_=>some (.d x)
  | []=>none
def Gs(ti:TI)(l:List Sym):Option Sym:=
 match ti.agg with
 |true=>zu (Nat.ble ti.size l.length) (some (vy (l.take ti.size)))
 |false=>match l with
  |x::_=>some x
  | []=>none
def Gt(look:Nat->Option Obj')(ti:TI):Sym->Option Sym
 |.d (.ptr l)=>JO ti l
 |.bp id off=>match look id with
  |some (.box _ cells)=>Gs ti (cells.drop off)
  |_=>none
 |.ap id sz i off=>match look id with
  |some (.arr _ sz' rows)=>zu (Nat.beq sz sz'&&Nat.blt i rows.length) (JO ti ((rows.getD i []).drop off))
  |_=>none
 |_=>none
def Gu(kd:TK)(x:Sym)(f:Nat):Option Sym:=
 match kd with
 |.struct fs=>match fs[f]?,x with
  |some (off,sz,_),.d (.ptr l)=>zu (!Nat.beq sz 0) (some (.d (.ptr (l.drop off))))
  |some (off,sz,_),.bp id o=>zu (!Nat.beq sz 0) (some (.bp id (o+off)))
  |some (off,sz,_),.ap id s i o=>zu (!Nat.beq sz 0) (some (.ap id s i (o+off)))
  |_,_=>none
 |_=>none
def Gv(kd:TK)(x:Sym)(f:Nat):Option Sym:=
 match kd with
 |.struct fs=>match fs[f]?,x with
  |some (off,sz,agg),.d (.agg l)=>match agg with
   |true=>zu (Nat.ble (off+sz) l.length) (some (.d (.agg ((l.drop off).take sz))))
   |false=>match l.drop off with
    |x::_=>some (.d x)
    | []=>none
  |some (off,sz,agg),.agg l=>match agg with
   |true=>zu (Nat.ble (off+sz) l.length) (some (vy ((l.drop off).take sz)))
   |false=>match l.drop off with
    |x::_=>some x
    | []=>none
  |_,_=>none
 |_=>none
def Gw(look:Nat->Option Obj')(esz:Nat):Sym->Sym->Option Sym
 |.d (.sl l),.d (.int _ n)=>zu (decide (0<=n)&&decide (n<l.length)&&Nat.beq (l.getD n.toNat []).length esz) (some (.d (.ptr (l.getD n.toNat []))))
 |.ar id,.d (.int _ n)=>match look id with
  |some (.arr _ sz rows)=>zu (decide (0<=n)&&decide (n<rows.length)&&Nat.beq sz esz) (some (.ap id sz n.toNat 0))
  |_=>none
 |_,_=>none
def Gx:Sym->Sym->Option Sym
 |.d (.str s),.d (.int _ n)=>zu (decide (0<=n)&&decide (n<s.size)) (some (.d (.int .u8 (byteAt s n))))
 |_,_=>none
def ZG(kd:IntKind)(n:Int):Option Sym:=
 match kd with
 |.i64=>zu (decide (-9223372036854775808<=n)&&decide (n<=9223372036854775807)) (some (.d (.int .i64 n)))
 |kd=>some (.d (.int kd (kd.wrap n)))
def Gy(kd:IntKind)(a b:Int):BinOp->Option Sym
 |.add=>ZG kd (a+b)
 |.sub=>ZG kd (a-b)
 |.mul=>ZG kd (a*b)
 |.quo=>zu (!decide (b=0)) (ZG kd (a.tdiv b))
 |.rem=>zu (!decide (b=0)) (some (.d (.int kd (a.tmod b))))
 |.and=>some (.d (.int kd (qy .and kd a b)))
 |.or=>some (.d (.int kd (qy .or kd a b)))
 |.xor=>some (.d (.int kd (qy .xor kd a b)))
 |.andNot=>some (.d (.int kd (qy .andNot kd a b)))
 |.eql=>some (.d (.bool (decide (a=b))))
 |.neq=>some (.d (.bool (!decide (a=b))))
 |.lss=>some (.d (.bool (decide (a<b))))
 |.leq=>some (.d (.bool (decide (a<=b))))
 |.gtr=>some (.d (.bool (decide (b<a))))
 |.geq=>some (.d (.bool (decide (b<=a))))
 |_=>none
def bl(a:ByteArray):List UInt8:=a.data.toList
def Gz(a b:ByteArray):BinOp->Option Sym
 |.add=>zu (Nat.ble (a.size+b.size) 9223372036854775807) (some (.d (.str (a++b))))
 |.eql=>some (.d (.bool (bl a==bl b)))
 |.neq=>some (.d (.bool !(bl a==bl b)))
 |.lss=>some (.d (.bool (Op.bytesLess (bl a) (bl b))))
 |.leq=>some (.d (.bool (Op.bytesLess (bl a) (bl b) ||bl a==bl b)))
 |.gtr=>some (.d (.bool (!(Op.bytesLess (bl a) (bl b) ||bl a==bl b))))
 |.geq=>some (.d (.bool (!Op.bytesLess (bl a) (bl b))))
 |_=>none
def GF(a b:Bool):BinOp->Option Sym
 |.eql=>some (.d (.bool (a==b)))
 |.neq=>some (.d (.bool (!(a==b))))
 |_=>none
def GG(op:BinOp):Sym->Sym->Option Sym
 |.d (.int ka a),.d (.int kb b)=>match op with
  |.shl=>zu (decide (0<=b)) (some (.d (.int ka (k6 .shl ka a b))))
  |.shr=>zu (decide (0<=b)) (some (.d (.int ka (k6 .shr ka a b))))
  |op=>zu (decide (ka=kb)) (Gy ka a b op)
 |.d (.str a),.d (.str b)=>Gz a b op
 |.d (.bool a),.d (.bool b)=>GF a b op
 |.d (.sl (_::_)),.nils=>match op with
  |.eql=>some (.d (.bool false))
  |.neq=>some (.d (.bool true))
  |_=>none
 |.nils,.nils=>match op with
  |.eql=>some (.d (.bool true))
  |.neq=>some (.d (.bool false))
  |_=>none
 |_,_=>none
def GH(Γ:XG)(op:BinOp)(t:Nat):Sym->Sym->Option Sym
 |.d (.agg a),.d (.agg b)=>match Γ.ek t with
  |some ks=>match yX ks a b with
   |some r=>match op with
    |.eql=>some (.d (.bool r))
    |.neq=>some (.d (.bool (!r)))
    |_=>none
   |none=>none
  |none=>none
 |_,_=>none
def GI(op:UnOp):Sym->Option Sym
 |.d (.bool b)=>match op with
  |.not=>some (.d (.bool !b))
  |_=>none
 |.d (.int kd n)=>match op with
  |.neg=>ZG kd (0-n)
  |_=>none
 |_=>none
def GK:TK->Sym->Option Sym
 |.int kd,.d (.int _ n)=>some (.d (.int kd (kd.wrap n)))
 |.str,.d (.str s)=>some (.d (.str s))
 |_,_=>none
def GL:Sym->Nat->Option Sym
 |.d (.tup l),i=>match l[i]? with
  |some x=>some (.d x)
  |none=>none
 |.tup l,i=>l[i]?
 |_,_=>none
def GM(look:Nat->Option Obj'):TK->Sym->Option Sym
 |.slice _,.d (.sl l)=>some (.d (.int .i64 l.length))
 |.str,.d (.str s)=>some (.d (.int .i64 s.size))
 |.slice _,.nils=>some (.d (.int .i64 0))
 |.slice _,.ar id=>match look id with
  |some (.arr _ _ rows)=>some (.d (.int .i64 rows.length))
  |_=>none
 |.slice _,.aS _ _ _ n=>some (.d (.int .i64 n))
 |_,_=>none
def GN(Γ:XG)(look:Nat->Option Obj'):TK->Sym->Option Sym->Option Sym->Option Sym
 |.slice e,.d (.sl l),lo,hi=>match Γ.ti e,bnd 0 lo,bnd l.length hi with
  |some te,some o,some h=>zu (decide (0<=o)&&decide (o<=h)&&decide (h<=l.length)&&l.all (λr=>Nat.beq r.length te.size)) (some (.d (.sl ((l.take h.toNat).drop o.toNat))))
  |_,_,_=>none
 |.slice e,.ar id,lo,hi=>match look id,Γ.ti e with
  |some (.arr _ sz rows),some te=>match bnd 0 lo,bnd rows.length hi with
   |some o,some h=>zu (decide (0<=o)&&decide (o<=h)&&decide (h<=rows.length)&&Nat.beq sz te.size) (some (match decide (o=h) with |true=>.d (.sl []) |false=>.aS id sz o.toNat (h.toNat-o.toNat)))
   |_,_=>none
  |_,_=>none
 |.str,.d (.str s),lo,hi=>match bnd 0 lo,bnd s.size hi with
  |some o,some h=>zu (decide (0<=o)&&decide (o<=h)&&decide (h<=s.size)) (some (.d (.str (s.extract o.toNat h.toNat))))
  |_,_=>none
 |_,_,_,_=>none
def GQ:Sym->Option Sym
 |.d (.ptr l)=>some (.d (.ptr l))
 |.bp id off=>some (.bp id off)
 |.ap id s i off=>some (.ap id s i off)
 |.fn f l=>some (.fn f l)
 |.d (.fn f l)=>some (.d (.fn f l))
 |_=>none
def GR(ti:TI):Option Sym:=
 match ti.agg with
 |true=>zu (ti.zero.all (·.oneCell')) (some (vy (ti.zero.map ofConst)))
 |false=>match ti.zero with
  | [v]=>some (ofConst v)
  |_=>none
def GU(look:Nat->Option Obj')(kk:TK)(te:TI)(commaOk:Bool)(m x:Sym):Option Sym:=
 match gj look m,x with
 |some rows,.d x=>zu (qo kk x) (match jM x rows with
  |some (some v)=>some (match commaOk with |true=>.d (.tup [v,.bool true]) |false=>.d v)
  |some none=>match GR te with
   |some z=>some (match commaOk with |true=>.tup [z,.d (.bool false)] |false=>z)
   |none=>none
  |none=>none)
 |_,_=>none
def GV(ti:TI)(parts:List (Nat×Sym)):Option Sym:=
 match ti.kind with
 |.struct fs=>zu (ti.zero.all (·.oneCell')) (match Zq fs (ti.zero.map ofConst) parts with
  |some out=>some (Zr out)
  |none=>none)
 |_=>none
def YN(Γ:XG)(look:Nat->Option Obj')(ρ:Operand->Sym)(op:Op):Option Sym:=
 match op with
 |.move x=>some (ρ x)
 |.assign x=>some (ρ x)
 |.pick c a b=>match ρ c with
  |.d (.bool true)=>some (ρ a)
  |.d (.bool false)=>some (ρ b)
  |_=>none
 |.load t x=>match Γ.ti t with
  |some ti=>Gt look ti (ρ x)
  |none=>none
 |.fieldAddr t x f=>match Γ.ti t with
  |some ti=>Gu ti.kind (ρ x) f
  |none=>none
 |.field t x f=>match Γ.ti t with
  |some ti=>Gv ti.kind (ρ x) f
  |none=>none
 |.indexAddr t x i=>match Γ.ti t with
  |some ⟨.slice e,_,_,_,_⟩=>match Γ.ti e with
   |some te=>Gw look te.size (ρ x) (ρ i)
   |none=>none
  |_=>none
 |.index t x i=>match Γ.ti t with
  |some ⟨.str,_,_,_,_⟩=>Gx (ρ x) (ρ i)
  |_=>none
 |.slice t x lo hi none=>match Γ.ti t with
  |some ti=>GN Γ look ti.kind (ρ x) (lo.map ρ) (hi.map ρ)
  |none=>none
 |.binOp op t x y _=>match Γ.ti t with
  |some ti=>match ρ x,ρ y with
   |.d (.agg a),.d (.agg b)=>GH Γ op t (.d (.agg a)) (.d (.agg b))
   |a,b=>zu (Zj ti.kind a) (GG op a b)
  |none=>none
 |.unOp op _ x=>GI op (ρ x)
 |.convert s t x=>match Γ.ti s,Γ.ti t with
  |some _,some ti=>GK ti.kind (ρ x)
  |_,_=>none
 |.extract t i=>GL (ρ t) i
 |.lookup t m x c=>match Γ.ti t with
  |some ⟨.map kt et,_,_,_,_⟩=>match Γ.ti kt,Γ.ti et with
   |some tk,some te=>zu (Γ.zf et) (GU look tk.kind te c (ρ m) (ρ x))
   |_,_=>none
  |_=>none
 |.nilCheck x=>GQ (ρ x)
 |.call {callee:=.builtin .len,args:=a,argTypes:=ts}=>match a.toList,ts.toList with
  | [x],[t]=>match Γ.ti t with
   |some ti=>GM look ti.kind (ρ x)
   |none=>none
  |_,_=>none
 |.call {callee:=.builtin .max,args:=a,argTypes:=_}=>match a.toList.map ρ with
  | [.d (.int ka a),.d (.int _ b)]=>some (.d (.int ka (match decide (b>a) with |true=>b |false=>a)))
  |_=>none
 |.call {callee:=.builtin .min,args:=a,argTypes:=_}=>match a.toList.map ρ with
  | [.d (.int ka a),.d (.int _ b)]=>some (.d (.int ka (match decide (b<a) with |true=>b |false=>a)))
  |_=>none
 |.build t parts=>match Γ.ti t with
  |some ti=>GV ti (parts.toList.map λ(i,x)=>(i,ρ x))
  |none=>none
 |.buildSlice t n parts=>match Γ.ti t with
  |some ⟨.slice e,_,_,_,_⟩=>match Γ.ti e,inOrder 0 (parts.toList.map λ(i,x)=>(i,ρ x)) with
   |some te,some xs=>match rowsOf te.size xs with
    |some rows=>zu (Nat.beq xs.length n&&Nat.blt 0 te.size&&Nat.ble (n*te.size) 16777216) (some (.d (.sl rows)))
    |none=>none
   |_,_=>none
  |_=>none
 |.makeFunc (.func f) first captured=>match first.toList with
  | []=>some (.fn f (captured.toList.map ρ))
  |_=>none
 |_=>none
abbrev Caller:=Nat->List Sym->List (Nat×Obj')->Nat->Option XR
mutual
def uw:Sym->List Nat->List Nat
 |.bp i _,l=>qR i l
 |.ar i,l=>qR i l
 |.ap i _ _ _,l=>qR i l
 |.aS i _ _ _,l=>qR i l
 |.av i _ _ _,l=>qR i l
 |.yd i,l=>qR i l
 |.mp i,l=>qR i l
 |.tup s,l=>vW s l
 |.agg s,l=>vW s l
 |.fn _ s,l=>vW s l
 |_,l=>l
def vW:List Sym->List Nat->List Nat
 | [],l=>l
 |s::r,l=>vW r (uw s l)
end
def reach(look:Nat->Option Obj'):Nat->List Nat->List Nat->List Nat
 |0,_,acc=>acc
 |_+1,[],acc=>acc
 |k+1,i::r,acc=>match look i with
  |some (.box _ cells)=>
   let acc':=vW cells acc
   reach look k (r++acc'.drop acc.length) acc'
  |some (.raw _ cells)=>
   let acc':=vW cells acc
   reach look k (r++acc'.drop acc.length) acc'
  |_=>reach look k r acc
mutual
def zjb:Sym->List Nat
 |.ar i=>[i]
 |.agg l=>GX l
 |_=>[]
def GX:List Sym->List Nat
 | []=>[]
 |s::r=>zjb s++GX r
end
mutual
def zjc:Sym->List Nat->List Nat
 |.bp i _,l=>qR i l
 |.ap i _ _ _,l=>qR i l
 |.aS i _ _ _,l=>qR i l
 |.av i _ _ _,l=>qR i l
 |.yd i,l=>qR i l
 |.mp i,l=>qR i l
 |.tup s,l=>gK s l
 |.agg s,l=>gK s l
 |.fn _ s,l=>vW s l
 |_,l=>l
def gK:List Sym->List Nat->List Nat
 | [],l=>l
 |s::r,l=>gK r (zjc s l)
end
def xi(ids:List Nat)(i:Nat):Nat:=match ids with
 | []=>i
 |j::r=>match Nat.beq i j with
  |true=>0
  |false=>Nat.succ (xi r i)
mutual
def vX(ids:List Nat):Sym->Bool
 |.bp i _=>ids.any (Nat.beq i)
 |.ar i=>ids.any (Nat.beq i)
 |.ap i _ _ _=>ids.any (Nat.beq i)
 |.aS i _ _ _=>ids.any (Nat.beq i)
 |.av i _ _ _=>ids.any (Nat.beq i)
 |.yd i=>ids.any (Nat.beq i)
 |.mp i=>ids.any (Nat.beq i)
 |.tup l=>vJ ids l
 |.agg l=>vJ ids l
 |.fn _ l=>vJ ids l
 |_=>true
def vJ(ids:List Nat):List Sym->Bool
 | []=>true
 |s::r=>vX ids s&&vJ ids r
end
def QL(ids:List Nat):Obj'->Bool
 |.box _ cells=>vJ ids cells
 |.raw _ cells=>vJ ids cells
 |_=>true
def nodupB:List Nat->Bool
 | []=>true
 |i::r=>!r.any (Nat.beq i)&&nodupB r
def gP(look:Nat->Option Obj')(ids:List Nat):Nat->List Nat->Option (List (Nat×Obj'))
 |_,[]=>some []
 |k,i::r=>match look i with
  |some o=>match QL ids o with
   |true=>match gP look ids (k+1) r with
    |some l=>some ((k,qp (xi ids) o)::l)
    |none=>none
   |false=>none
  |none=>none
def XS.after(xs:XS)(ids:List Nat)(nx:Nat)(own':List (Nat×Obj'))(mv:List Nat):XS:=
 {xs with next:=xs.next+(nx-ids.length),slots:=(match mv with | []=>xs.slots | _=>xs.slots.map (zI (mv.map (yq ids xs.next)))),own:=wq (yq ids xs.next) own'++ju ids (mv.map (yq ids xs.next)) xs.own,moved:=mv.map (yq ids xs.next)++xs.moved}
def gQ(call:Caller)(xs:XS)(g:Nat)(aS:List Sym)(dst:Option Tmp):Option XS:=
 let roots:=vW aS []
 let ids:=reach xs.look 1000 roots roots
 match zu (nodupB ids&&vJ ids aS) (gP xs.look ids 0 ids) with
 |some own0=>match call g (yl (xi ids) aS) own0 ids.length with
  |some r=>some ((xs.after ids r.nx r.own r.mv).put dst (ren (yq ids xs.next) r.s))
  |none=>none
 |none=>none
def JP:List Sym->Bool
 | []=>true
 |.bp _ _::_=>false
 |.ap _ _ _ _::_=>false
 |.aS _ _ _ _::_=>false
 |.yd _::_=>false
 |.mp _::_=>false
 |.tup l::r=>(gK l []).isEmpty&&JP r
 |.agg l::r=>(gK l []).isEmpty&&JP r
 |_::r=>JP r
def orElse'{α:Type}(x y:Option α):Option α:=match x with
 |some r=>some r
 |none=>y
def GY(call:Caller)(xs:XS)(g:Nat)(aS:List Sym)(dst:Option Tmp):Option XS:=
 match (gK aS []).isEmpty with
 |true=>match qn xs.look aS with
  |some (ds,_)=>match call g (ds.map .d) [] 0 with
   |some ⟨.d r,_,_,_⟩=>zu r.scalar (some (xs.put dst (.d r)))
   |_=>none
  |none=>none
 |false=>none
def QM(call:Caller)(xs:XS)(f:Operand)(args:List Operand)(dst:Option Tmp)(L:List Nat):Option XS:=
 match yB ((xs.zH L).val f) with
 |some (g',caps')=>gQ call (xs.zH L) g' (args.map (xs.zH L).val++caps') dst
 |none=>none
def GZ(Γ:XG)(call:Caller)(xs:XS)(f:Operand)(args:List Operand)(dst:Option Tmp):Option XS:=
 match yB (xs.val f) with
 |some (g,caps)=>
  let aS:=args.map xs.val++caps
  match GX aS with
  | []=>gQ call xs g aS dst
  |ars=>
   let pr:=reach xs.look 1000 (gK aS []) (gK aS [])
   let L:=ars.filter λi=>!pr.any (Nat.beq i)
   match Γ.sc g&&JP aS with
   |true=>orElse' (GY call xs g aS dst) (orElse' (gQ call xs g aS dst) (QM call xs f args dst L))
   |false=>match Γ.mf g with
    |true=>orElse' (gQ call xs g aS dst) (QM call xs f args dst L)
    |false=>orElse' (QM call xs f args dst L) (gQ call xs g aS dst)
 |none=>none
def YO(look:Nat->Option Obj')(id:Nat):Sym->Option (List (List D))
 |.d (.sl l)=>some l
 |.nils=>some []
 |.ar j=>match Nat.beq j id with
  |true=>none
  |false=>match look j with
   |some (.arr _ _ rows)=>some rows
   |_=>none
 |.aS j sz lo n=>match Nat.beq j id with
  |true=>none
  |false=>match look j with
   |some (.arr _ sz' rows)=>zu (Nat.beq sz sz'&&Nat.ble (lo+n) rows.length) (some ((rows.drop lo).take n))
   |_=>none
 |_=>none
def qS(dst:Option Tmp)(n:Nat):Bool:=match dst with
 |some t=>Nat.blt t n&&Nat.blt t 4095
 |none=>true
def ux(Γ:XG)(call:Caller)(o:Oper)(xs:XS):Option XS:=
 zu (qS o.dst xs.n) <|
 match o.op with
 |.box T x=>match yP (xs.val x) with
  |some l=>some ((xs.new (.box T l)).put o.dst (.bp xs.next 0))
  |none=>none
 |.alloc T=>match Γ.ti T with
  |some ti=>zu (ti.zero.all (·.oneCell')) (some ((xs.new (.box T (ti.zero.map ofConst))).put o.dst (.bp xs.next 0)))
  |none=>none
 |.assign (.const (.slice none 0 0))=>match Γ.ti o.type with
  |some ⟨.slice e,_,_,_,_⟩=>match Γ.ti e with
   |some te=>some ((xs.new (.arr e te.size [])).put o.dst (.ar xs.next))
   |none=>none
  |_=>none
 |.buildSlice t n parts=>match Γ.ti t with
  |some ⟨.slice e,_,_,_,_⟩=>match Γ.ti e with
   |some te=>match inOrder 0 parts.toList with
    |some l=>
     let xs':=xs.zH (ve (l.map xs.val))
     match rowsOf te.size (l.map xs'.val) with
     |some rows=>zu (Nat.beq l.length n&&Nat.blt 0 te.size&&Nat.ble (n*te.size) 16777216) (some ((xs'.new (.arr e te.size rows)).put o.dst (.ar xs'.next)))
     |none=>none
    |none=>none
   |none=>none
  |_=>none
 |.store t ad x=>match o.dst,Γ.ti t with
  |none,some ti=>match xs.val ad with
   |.bp id off=>match xs.look id with
    |some (.box T cells)=>match yP (xs.val x) with
     |some l=>zu (Nat.beq l.length ti.size&&Nat.ble (off+l.length) cells.length) (some (xs.set id (.box T (splice cells off l))))
     |none=>none
    |_=>none
   |.ap id sz i off=>match xs.look id with
    |some (.arr T sz' rows)=>match yP (xs.val x) with
     |some l=>match yM l with
      |some ds=>zu (Nat.beq sz sz'&&Nat.blt i rows.length&&Nat.beq ds.length ti.size&&Nat.ble (off+ds.length) (rows.getD i []).length) (some (xs.set id (.arr T sz (rows.set i (splice (rows.getD i []) off ds)))))
      |none=>none
     |none=>none
    |_=>none
   |_=>none
  |_,_=>none
 |.makeSlice t l c=>match Γ.ti t,xs.val l,xs.val c with
  |some ⟨.slice e,_,_,_,_⟩,.d (.int _ l),.d (.int _ c)=>match Γ.ti e with
   |some te=>match yM (te.zero.map ofConst) with
    |some x=>zu (Nat.blt 0 te.size&&Nat.beq te.zero.length te.size&&te.zero.all (·.oneCell')&&decide (0<=l)&&decide (l<=c)&&decide ((te.bytes:Int)*c<=281474976710656)&&decide (c<=(maxLen:Int))) (some ((xs.new (.arr e te.size (List.replicate l.toNat x))).put o.dst (.ar xs.next)))
    |none=>none
   |none=>none
  |_,_,_=>none
 |.makeMap t none=>some ((xs.new (.map t [])).put o.dst (.mp xs.next))
 |.mapUpdate t m x v=>match o.dst,xs.val m,xs.val x,kW (xs.val v),Γ.ti t with
  |none,.mp id,.d x,some v,some ⟨.map kt _,_,_,_,_⟩=>match xs.look id,Γ.ti kt with
   |some (.map T rows),some tk=>match k7 x v rows with
    |some rows'=>zu (qo tk.kind x) (some (xs.set id (.map T rows')))
    |none=>none
   |_,_=>none
  |_,_,_,_,_=>none
 |.call {callee:=.builtin .append,args:=xs',argTypes:=ts}=>match xs'.toList,ts.toList with
  | [s,x],[t,t']=>match Γ.ti t with
   |some ⟨.slice e,_,_,_,_⟩=>match Γ.ti e with
    |some te=>match xs.val s with
     |.ar id=>match xs.look id,YO xs.look id (xs.val x) with
      |some (.arr T sz rows),some l=>zu (Nat.beq t' t&&Nat.blt 0 te.size&&Nat.beq te.zero.length te.size&&te.zero.all (·.oneCell')&&Nat.beq T e&&Nat.beq sz te.size&&l.all (λr=>Nat.beq r.length te.size)&&Nat.ble ((rows.length+l.length)*te.bytes) 140737488355328&&Nat.ble (rows.length+l.length) maxLen)
        (some ((xs.renew id (.arr e te.size (rows++l))).put o.dst (.ar id)))
      |_,_=>none
     |.nils=>match YO (xs.new (.arr e te.size [])).look xs.next (xs.val x) with
      |some l=>zu (Nat.beq t' t&&Nat.blt 0 te.size&&Nat.beq te.zero.length te.size&&te.zero.all (·.oneCell')&&l.all (λr=>Nat.beq r.length te.size)&&Nat.ble (l.length*te.bytes) 140737488355328&&Nat.ble l.length maxLen)
        (some (((xs.new (.arr e te.size [])).renew xs.next (.arr e te.size l)).put o.dst (.ar xs.next)))
      |none=>none
     |_=>none
    |none=>none
   |_=>none
  |_,_=>none
 |.call {callee:=.builtin .copy,args:=xs',argTypes:=ts}=>match xs'.toList,ts.toList with
  | [d,s],[t,_]=>match Γ.ti t with
   |some ⟨.slice e,_,_,_,_⟩=>match Γ.ti e,YO xs.look xs.next (xs.val s) with
    |some te,some l=>zu (Nat.blt 0 te.size&&l.all (λr=>Nat.beq r.length te.size)) (match xs.val d with
     |.d (.sl [])=>some (xs.put o.dst (.d (.int .i64 0)))
     |.aS id sz lo n=>match xs.look id with
      |some (.arr T sz' rows)=>zu (Nat.beq sz te.size&&Nat.beq sz' te.size&&Nat.ble (lo+n) rows.length) (some ((xs.set id (.arr T sz' (splice rows lo (l.take n)))).put o.dst (.d (.int .i64 ((l.take n).length:Nat)))))
      |_=>none
     |.ar id=>match xs.look id with
      |some (.arr T sz' rows)=>zu (Nat.beq sz' te.size) (some ((xs.set id (.arr T sz' (splice rows 0 (l.take rows.length)))).put o.dst (.d (.int .i64 ((l.take rows.length).length:Nat)))))
      |_=>none
     |_=>none)
    |_,_=>none
   |_=>none
  |_,_=>none
 |.call {callee:=.builtin .clear,args:=xs',argTypes:=ts}=>match xs'.toList,ts.toList with
  | [x],[t]=>match Γ.ti t with
   |some ⟨.slice e,_,_,_,_⟩=>match Γ.ti e with
    |some te=>match yM (te.zero.map ofConst) with
     |some z=>zu (te.zero.all (·.oneCell')&&Nat.beq te.zero.length te.size) (match xs.val x with
      |.d (.sl [])=>some (xs.put o.dst (.d (.tup [])))
      |.aS id sz lo n=>match xs.look id with
       |some (.arr T sz' rows)=>zu (Nat.beq sz te.size&&Nat.beq sz' te.size&&Nat.ble (lo+n) rows.length) (some ((xs.set id (.arr T sz' (splice rows lo (List.replicate n z)))).put o.dst (.d (.tup []))))
       |_=>none
      |_=>none)
     |none=>none
    |none=>none
   |_=>none
  |_,_=>none
 |.range t x=>match Γ.ti t,xs.val x with
  |some ⟨.str,_,_,_,_⟩,.d (.str s)=>some ((xs.new (.raw (.it s 0) [])).put o.dst (.bp xs.next 0))
  |_,_=>none
 |.next x true=>match xs.val x with
  |.bp id 0=>match xs.look id with
   |some (.raw (.it s pos) [])=>match J4 s pos with
    |(pos',y)=>some ((xs.set id (.raw (.it s pos') [])).put o.dst (.d y))
   |_=>none
  |_=>none
 |.convert s t x=>match YN Γ xs.look xs.val (.convert s t x) with
  |some y=>some (xs.put o.dst y)
  |none=>match Γ.ti s,Γ.ti t with
   |some ⟨.slice e,_,_,_,_⟩,some ⟨.str,_,_,_,_⟩=>match Γ.ti e,YO xs.look xs.next (xs.val x) with
    |some ⟨.int .u8,_,_,_,_⟩,some rows=>match bytesOf rows with
     |some bs=>some (xs.put o.dst (.d (.str ⟨bs.toArray⟩)))
     |none=>none
    |_,_=>none
   |some ⟨.str,_,_,_,_⟩,some ⟨.slice e,_,_,_,_⟩=>match Γ.ti e,xs.val x with
    |some ⟨.int .u8,_,_,_,_⟩,.d (.str b)=>zu (Nat.ble b.size maxLen) (some (xs.put o.dst (.d (.sl (y8 b)))))
    |_,_=>none
   |_,_=>none
 |.call {callee:=.value f,args:=xs',argTypes:=_}=>GZ Γ call xs f xs'.toList o.dst
 |op=>match YN Γ xs.look xs.val op with
  |some s=>some (xs.put o.dst s)
  |none=>none
abbrev Runner:=Code->XS->Option (DE×XS)
def JQ:List Nat->List Sym->Tr->Tr
 |p::ps,s::ss,t=>JQ ps ss (t.put dep p s)
 |_,_,t=>t
def kC:Nat->List Sym->Tr->Tr
 |_,[],t=>t
 |k,s::r,t=>kC (k+1) r (t.put dep k s)
def gR(n:Nat)(ids:List Nat)(x:Nat×Obj'):Bool:=Nat.blt x.1 n || ids.any (Nat.beq x.1)
def xp:DE->Option Code
 |.normal=>none
 |.ret=>some .ret
 |.exit i=>some (.exit i)
def wB:DE->LoopState
 |.normal=>.ready
 |_=>.done
def uy:DE->Bool
 |.normal=>true
 |_=>false
def QN(run:Runner)(id:Nat)(args:List Sym)(own:List (Nat×Obj'))(n:Nat):Option XR:=
 match vm own id with
 |some (.raw (.lp ps a b .ready none) cells)=>match zu (Nat.beq args.length ps.size&&ps.toList.all (λp=>Nat.blt p cells.length)&&Nat.blt cells.length 4000)
   (run a ⟨cells.length,n,JQ ps.toList args (kC 0 cells .leaf),own,n,[]⟩) with
  |some (.normal,xs1)=>match zu (Nat.beq xs1.base n && !xs1.moved.any (Nat.beq id)&&Nat.blt id n) (xs1.look id) with
   |some (.raw (.lp ps1 a1 b1 .ready none) cells1)=>match run b (xs1.set id (.raw (.lp ps1 a1 b1 .busy none) cells1)) with
    |some (de,xs2)=>match xs2.look id with
     |some (.raw (.lp ps2 a2 b2 .busy none) cells2)=>zu (Nat.beq xs2.base n && !xs2.moved.any (Nat.beq id))
      (some ⟨.d (.bool (uy de)),xs2.next,(xs2.set id (.raw (.lp ps2 a2 b2 (wB de) (xp de)) cells2)).own.filter (gR n (reach xs2.look 1000 (List.range n) [])),xs2.moved⟩)
     |_=>none
    |none=>none
   |_=>none
  |_=>none
 |_=>none
def JR(run:Runner)(xs:XS)(id:Nat)(aS:List Sym)(dst:Option Tmp):Option XS:=
 let roots:=vW (.yd id::aS) []
 let ids:=reach xs.look 1000 roots roots
 match zu (nodupB ids&&vJ ids (.yd id::aS)) (gP xs.look ids 0 ids) with
 |some own0=>match QN run (xi ids id) (yl (xi ids) aS) own0 ids.length with
  |some r=>some ((xs.after ids r.nx r.own r.mv).put dst (ren (yq ids xs.next) r.s))
  |none=>none
 |none=>none
def YP(Γ:XG)(call:Caller)(run:Runner)(o:Oper)(xs:XS):Option XS:=
 match o.op with
 |.call {callee:=.value f,args:=args,argTypes:=ts}=>match xs.val f with
  |.yd id=>zu (qS o.dst xs.n) (JR run xs id (args.toList.map xs.val) o.dst)
  |_=>ux Γ call o xs
 |_=>ux Γ call o xs
def jQ(Γ:XG)(call:Caller)(run:Runner)(all:List Oper):List Oper->XS->Option XS
 | [],xs=>some xs
 |o::r,xs=>match o.guard with
  |none=>match YP Γ call run o xs with
   |some xs'=>jQ Γ call run all r xs'
   |none=>none
  |some (j,want)=>match (all[j]?).bind (·.dst) with
   |some t=>match xs.get t with
    |some (.d (.bool b))=>match b==want with
     |true=>match YP Γ call run o xs with
      |some xs'=>jQ Γ call run all r xs'
      |none=>none
     |false=>zu (qS o.dst xs.n) (jQ Γ call run all r (xs.put o.dst (.d (.val undef))))
    |some (.d (.val (.tuple ⟨[]⟩)))=>zu (qS o.dst xs.n) (jQ Γ call run all r (xs.put o.dst (.d (.val undef))))
    |_=>none
   |none=>none
def QO(id:Nat):Option (DE×XS)->Option (DE×XS)
 |some (.exit j,xs)=>match Nat.beq j id with
  |true=>some (.normal,xs)
  |false=>some (.exit j,xs)
 |r=>r
def QP(f:XS->Option (DE×XS)):Nat->XS->Option (DE×XS)
 |0,_=>none
 |k+1,xs=>match f xs with
  |some (.normal,xs')=>QP f k xs'
  |r=>r
def wC(xs:XS):Nat->Nat->List Sym
 |0,_=>[]
 |k+1,t=>(match xs.get t with
  |some s=>s
  |none=>.junk)::wC xs k (t+1)
def Nu(l:Nat)(xs:XS):Option (DE×XS):=
 match xs.look l with
 |some (.raw (.lp _ _ _ st pend) _)=>match st,pend with
  |.busy,_=>none
  |_,none=>some (.normal,{xs with own:=xs.own.filter λx=>!Nat.beq x.1 l})
  |_,some .ret=>some (.ret,{xs with own:=xs.own.filter λx=>!Nat.beq x.1 l})
  |_,some (.exit i)=>some (.exit i,{xs with own:=xs.own.filter λx=>!Nat.beq x.1 l})
  |_,_=>none
 |_=>none
def F2(call:Caller)(xs:XS)(g:Operand)(ps:Array Tmp)(a b:Code):Option (DE×XS):=
 match yB (xs.val g) with
 |some (gf,caps)=>
  let xs1:=xs.new (.raw (.lp ps a b .ready none) (wC xs xs.n 0))
  let roots:=vW (.yd xs.next::caps) []
  let ids:=reach xs1.look 1000 roots roots
  match zu (nodupB ids&&vJ ids (.yd xs.next::caps)) (gP xs1.look ids 0 ids) with
  |some own0=>match call gf (yl (xi ids) (.yd xs.next::caps)) own0 ids.length with
   |some r=>zu (!r.mv.any (Nat.beq (xi ids xs.next))) (Nu xs.next (xs1.after ids r.nx r.own r.mv))
   |none=>none
  |none=>none
 |none=>none
def xj:Code->Bool
 |.rangeFunc _ _ _ _=>true
 |.seq x y=>xj x ||xj y
 |.cond _ x y=>xj x ||xj y
 |.block _ c=>xj c
 |.loop c=>xj c
 |.scope c=>xj c
 |_=>false
def yN(Γ:XG)(call:Caller)(run:Runner)(draw:List Oper->XS->Option XS):Code->Bool->XS->Option (DE×XS)
 |.skip,_,xs=>some (.normal,xs)
 |.region _ ops d,pl,xs=>match (match d with
   |true=>(match pl with
    |true=>draw ops.toList xs
    |false=>none)
   |false=>jQ Γ call run ops.toList ops.toList xs) with
  |some xs'=>some (.normal,xs')
  |none=>none
 |.seq x y,pl,xs=>match yN Γ call run draw x pl xs with
  |some (.normal,xs')=>yN Γ call run draw y (pl && !xj x) xs'
  |r=>r
 |.cond c x y,pl,xs=>match xs.val c with
  |.d (.bool true)=>yN Γ call run draw x pl xs
  |.d (.bool false)=>yN Γ call run draw y pl xs
  |_=>none
 |.block id c,pl,xs=>QO id (yN Γ call run draw c pl xs)
 |.exit id,_,xs=>some (.exit id,xs)
 |.ret,_,xs=>some (.ret,xs)
 |.loop c,pl,xs=>QP (yN Γ call run draw c (pl && !xj c)) 100000 xs
 |.scope c,true,xs=>yN Γ call run draw c true xs
 |.label _,_,xs=>some (.normal,xs)
 |.rangeFunc g ps a b,true,xs=>F2 call xs g ps a b
 |_,_,_=>none
def F3(Γ:XG)(xs:XS):ResultVar->Option Sym
 |.tmp t=>xs.get t
 |.cell ad T=>match xs.get ad,Γ.ti T with
  |some (.bp id off),some ti=>match xs.look id with
   |some (.box _ cells)=>Jn ti (cells.drop off)
   |_=>none
  |_,_=>none
def ZH(Γ:XG)(xs:XS):List ResultVar->Option (List Sym)
 | []=>some []
 |v::r=>match F3 Γ xs v,ZH Γ xs r with
  |some s,some l=>some (s::l)
  |_,_=>none
mutual
def vY(m:Nat):Sym->Bool
 |.bp i _=>Nat.blt i m
 |.ar i=>Nat.blt i m
 |.ap i _ _ _=>Nat.blt i m
 |.aS i _ _ _=>Nat.blt i m
 |.av i _ _ _=>Nat.blt i m
 |.yd i=>Nat.blt i m
 |.mp i=>Nat.blt i m
 |.tup l=>uz m l
 |.agg l=>uz m l
 |.fn _ l=>uz m l
 |_=>true
def uz(m:Nat):List Sym->Bool
 | []=>true
 |s::r=>vY m s&&uz m r
end
def Nv(Γ:XG)(f:Nat)(args:List Sym):Option D:=match Γ.kn f,yM args with
 |some g,some ds=>g ds
 |_,_=>none
def JS:DE->Bool
 |.exit _=>false
 |_=>true
mutual
def zjv:Sym->List Nat
 |.aS i _ _ _=>[i]
 |.agg l=>JU l
 |.tup l=>JU l
 |_=>[]
def JU:List Sym->List Nat
 | []=>[]
 |s::r=>zjv s++JU r
end
def YQ(Γ:XG)(xs:XS)(rs:List ResultVar):List Nat:=match ZH Γ xs rs with
 |some l=>JU l
 |none=>[]
def Nw(Γ:XG)(rs:List ResultVar)(n na:Nat)(de:DE)(xs:XS):Option XR:=match ZH Γ xs rs with
 |some l=>zu (JS de&&vY xs.next (vi l)&&Nat.beq xs.base n&&Nat.blt na 4000)
  (some ⟨vi l,xs.next,xs.own.filter (gR n (reach xs.look 1000 (uw (vi l) []++List.range n) (uw (vi l) []))),xs.moved⟩)
 |none=>none
def F4(Γ:XG)(call:Caller)(run:Runner)(draw:List Oper->XS->Option XS):Caller:=λf args own n=>match Γ.kc f with
 |some g=>g args own n
 |none=>match Nv Γ f args with
 |some r=>some ⟨.d r,n,own,[]⟩
 |none=>match Γ.fn f with
  |some (ntmps,c,rs)=>match yN Γ call run draw c true ⟨args.length+(ntmps-args.length),n,kC 0 args .leaf,own,n,[]⟩ with
   |some (de,xs)=>Nw Γ rs n args.length de (xs.zH (YQ Γ xs rs))
   |none=>none
  |none=>none
def ZI(Γ:XG)(draw:Caller->List Oper->XS->Option XS):Nat->Caller×Runner
 |0=>(λ_ _ _ _=>none,λ_ _=>none)
 |k+1=>match ZI Γ draw k with
  |(call,run)=>(F4 Γ call run (draw call),λc xs=>yN Γ call run (draw call) c false xs)
def QQ(Γ:XG)(draw:Caller->List Oper->XS->Option XS)(k:Nat):Caller:=(ZI Γ draw k).1
end Go.V
namespace Go.V
variable [Dr] [Ov]
open Go.RowKit
theorem zv{α:Type}{b:Bool}{x:Option α}{s:α}:zu b x=some s↔b=true/\x=some s:=by cases b <;> simp[zu]
theorem beq_iff{a b:Nat}:Nat.beq a b=true↔a=b:=by rw[Nat.beq_eq]
theorem qF{a b:Nat}:Nat.ble a b=true↔a<=b:=by rw[Nat.ble_eq]
theorem yQ{a b:Nat}:Nat.blt a b=true↔a<b:=by rw[Nat.blt_eq]
theorem Tr.ZJ:∀ (k t:Nat),Tr.get k .leaf t=none
 |0,_=>rfl
 |_+1,_=>rfl
theorem Tr.get_put:∀ (k:Nat) (x:Tr) (t:Nat) (s:Sym) (u:Nat),t+1<2^k->Tr.get k (Tr.put k x t s) u=if t=u then some s else Tr.get k x u
 |0,x,t,s,u,h=>by omega
 |k+1,x,t,s,u,h=>by
  have F:∀ t',t'+1+1<2^(k+1)->t'/2+1<2^k:=by intro t' E;rw[Nat.pow_succ] at E;omega
  cases x with
  |leaf=>
   cases t with
   |zero=>
    cases u with
    |zero=>simp[Tr.put,Tr.get]
    |succ u=>
     simp only[Tr.put,Tr.get,Tr.ZJ];cases Nat.beq (u%2) 0 <;> simp
   |succ t=>
    have ih:=Tr.get_put k .leaf (t/2) s;simp only[Tr.put];cases K:Nat.beq (t%2) 0 with
    |true=>
     have G:=beq_iff.1 K;cases u with
     |zero=>simp[Tr.get]
     |succ u=>
      simp only[Tr.get];cases J:Nat.beq (u%2) 0 with
      |true=>
       have H:=beq_iff.1 J;simp only[ih (u/2) (F t h),Tr.ZJ];by_cases e:t=u
       .subst e;simp
       .have:¬t/2=u/2:=by omega
        simp[e,this]
      |false=>
       have H:u%2≠0:=λe=>by rw[beq_iff.2 e] at J;cases J
       have:¬t=u:=λe=>H (e▸G)
       simp[this,Tr.ZJ]
    |false=>
     have G:t%2≠0:=λe=>by rw[beq_iff.2 e] at K;cases K
     cases u with
     |zero=>simp[Tr.get]
     |succ u=>
      simp only[Tr.get];cases J:Nat.beq (u%2) 0 with
      |false=>
       have H:u%2≠0:=λe=>by rw[beq_iff.2 e] at J;cases J
       simp only[ih (u/2) (F t h),Tr.ZJ];by_cases e:t=u
       .subst e;simp
       .have:¬t/2=u/2:=by omega
        simp[e,this]
      |true=>
       have H:=beq_iff.1 J;have:¬t=u:=λe=>G (e▸H)
       simp[this,Tr.ZJ]
  |node v l r=>
   cases t with
   |zero=>
    cases u with
    |zero=>simp[Tr.put,Tr.get]
    |succ u=>simp[Tr.put,Tr.get]
   |succ t=>
    simp only[Tr.put];cases K:Nat.beq (t%2) 0 with
    |true=>
     have ih:=Tr.get_put k l (t/2) s;have G:=beq_iff.1 K;cases u with
     |zero=>simp[Tr.get]
     |succ u=>
      simp only[Tr.get];cases J:Nat.beq (u%2) 0 with
      |true=>
       have H:=beq_iff.1 J;simp only[ih (u/2) (F t h)];by_cases e:t=u
       .subst e;simp
       .have:¬t/2=u/2:=by omega
        simp[e,this]
      |false=>
       have H:u%2≠0:=λe=>by rw[beq_iff.2 e] at J;cases J
       have:¬t=u:=λe=>H (e▸G)
       simp[this]
    |false=>
     have ih:=Tr.get_put k r (t/2) s;have G:t%2≠0:=λe=>by rw[beq_iff.2 e] at K;cases K
     cases u with
     |zero=>simp[Tr.get]
     |succ u=>
      simp only[Tr.get];cases J:Nat.beq (u%2) 0 with
      |false=>
       have H:u%2≠0:=λe=>by rw[beq_iff.2 e] at J;cases J
       simp only[ih (u/2) (F t h)];by_cases e:t=u
       .subst e;simp
       .have:¬t/2=u/2:=by omega
        simp[e,this]
      |true=>
       have H:=beq_iff.1 J;have:¬t=u:=λe=>G (e▸H)
       simp[this]
theorem Tr.get_map(f:Sym->Sym):∀ (k:Nat) (x:Tr) (t:Nat),Tr.get k (Tr.map f x) t=(Tr.get k x t).map f
 |0,x,t=>rfl
 |k+1,.leaf,t=>rfl
 |k+1,.node v l r,0=>rfl
 |k+1,.node v l r,u+1=>by
  simp only[Tr.map,Tr.get];cases Nat.beq (u%2) 0
  .exact Tr.get_map f k r _
  .exact Tr.get_map f k l _
theorem gU{α:Type}:∀ (l:List (Nat×α)) (t:Nat),vm l t=za l t
 | [],t=>rfl
 |(k,v)::r,t=>by
  simp only[vm,za];cases h:Nat.beq k t with
  |true=>rw[if_pos (beq_iff.1 h)]
  |false=>rw[if_neg (λe=>by rw[beq_iff.2 e] at h;cases h)];exact gU r t
theorem F5:∀ (l:List (Nat×Obj')) (t:Nat) (o:Obj'),YM t o l=zD t o l
 | [],t,o=>rfl
 |(k,v)::r,t,o=>by
  simp only[YM,zD];cases h:Nat.beq k t with
  |true=>rw[if_pos (beq_iff.1 h)]
  |false=>rw[if_neg (λe=>by rw[beq_iff.2 e] at h;cases h)];rw[F5 r t o]
theorem F6(id:Nat)(x:D):∀ (l:List (Nat×Sym)) (t:Nat),za (vC id x l) t=(za l t).map (thaw id x)
 | [],t=>rfl
 |(k,v)::r,t=>by simp only[vC,za];split;rfl;exact F6 id x r t
theorem Nx(id:Nat):∀ (l:List (Nat×Sym)) (t:Nat),za (yy id l) t=(za l t).map (zo id)
 | [],t=>rfl
 |(k,v)::r,t=>by simp only[yy,za];split;rfl;exact Nx id r t
theorem Ny(M:List Nat):∀ (l:List (Nat×Sym)) (t:Nat),za (u7 M l) t=(za l t).map (zI M)
 | [],t=>rfl
 |(k,v)::r,t=>by simp only[u7,za];split;rfl;exact Ny M r t
mutual
theorem Nz:∀ (s:Sym),zI [] s=s
 |.ar i=>by simp[zI]
 |.ap i s j o=>by simp[zI]
 |.aS i s j o=>by simp[zI]
 |.av i s j o=>by simp[zI]
 |.yd i=>by simp[zI]
 |.bp i o=>by simp[zI]
 |.mp i=>by simp[zI]
 |.agg l=>by simp[zI,JV l]
 |.tup l=>by simp[zI,JV l]
 |.fn f l=>by simp[zI,JV l]
 |.d x=>by simp[zI]
 |.nils=>by simp[zI]
 |.junk=>by simp[zI]
theorem JV:∀ (l:List Sym),qh [] l=l
 | []=>by simp[qh]
 |s::r=>by simp[qh,Nz s,JV r]
end
theorem any_beq{i:Nat}{l:List Nat}:l.any (Nat.beq i)=true↔i∈l:=by
 rw[List.any_eq_true]
 constructor
 .rintro⟨x,H,h⟩;rw[beq_iff] at h;subst h;exact H
 .exact λh=>⟨i,h,beq_iff.2 rfl⟩
theorem NA{i j:Nat}{l:List Nat}:i∈qR j l↔i=j\/i∈l:=by
 unfold qR
 split
 .rename_i h;rw[any_beq] at h
  exact⟨.inr,λh'=>h'.elim (λe=>e▸h) id⟩
 .simp[or_comm]
structure Ag(st:St)(xs:XS):Prop where
 n:st.n=xs.n
 next:st.next=xs.next
 own:st.own=xs.own
 base:st.base=xs.base
 moved:∀ id,id<st.base->id∈st.moved->id∈xs.moved
 slots:∀ t,za st.slots t=xs.get t
section
variable {st:St} {xs:XS}
theorem Ag.val(h:Ag st xs):st.val=xs.val:=by
 funext x
 cases x with
 |tmp t=>
  simp only[St.val,XS.val,h.slots];cases xs.get t <;> rfl
 |_=>rfl
theorem Ag.look(h:Ag st xs):st.look=xs.look:=by
 funext id;simp only[St.look,XS.look,gU,h.own]
theorem wE{dst:Option Tmp}{n:Nat}(h:qS dst n=true):(∀ t,dst=some t->t<n)/\(∀ t,dst=some t->t+1<4096):=by
 constructor <;> intro t e <;> subst e <;> simp only[qS,Bool.and_eq_true,yQ] at h
 .exact h.1
 .exact Nat.add_lt_add_right h.2 1
theorem Ag.put(h:Ag st xs){dst:Option Tmp}{n:Nat}(H:qS dst n=true)(s:Sym):Ag (st.put dst s) (xs.put dst s):=by
 cases dst with
 |none=>exact h
 |some t=>
  have G:=(wE H).2 t rfl;refine⟨h.n,h.next,h.own,h.base,h.moved,λu=>?_⟩
  show(if t=u then some s else za st.slots u)=Tr.get dep (Tr.put dep xs.slots t s) u
  rw[Tr.get_put dep xs.slots t s u (by simpa[dep] using G),h.slots];rfl
theorem Ag.new(h:Ag st xs)(o:Obj'):Ag (st.new o) (xs.new o):=by
 refine⟨h.n,?_,?_,h.base,h.moved,h.slots⟩
 .simp only[St.new,XS.new,h.next]
 .simp only[St.new,XS.new,h.next,h.own]
theorem Ag.set(h:Ag st xs)(id:Nat)(o:Obj'):Ag {st with own:=zD id o st.own} (xs.set id o):=by
 refine⟨h.n,h.next,?_,h.base,h.moved,h.slots⟩
 simp only[XS.set,F5,h.own]
theorem Ag.xm(h:Ag st xs)(id:Nat):Ag (st.xm id) (xs.xm id):=by
 unfold St.xm XS.xm
 rw[<-h.look]
 cases H:st.look id with
 |none=>exact h
 |some o=>
  cases o with
  |box T cells=>exact h
  |raw k cells=>exact h
  |arr T sz rows=>
   refine⟨h.n,h.next,by simp only[h.own],h.base,h.moved,λt=>?_⟩
   show za (vC id _ st.slots) t=Tr.get dep (Tr.map _ xs.slots) t
   rw[F6,Tr.get_map,h.slots];rfl
  |map T rows=>
   refine⟨h.n,h.next,by simp only[h.own],h.base,h.moved,λt=>?_⟩
   show za (vC id _ st.slots) t=Tr.get dep (Tr.map _ xs.slots) t
   rw[F6,Tr.get_map,h.slots];rfl
theorem Ag.zH:∀ {l:List Nat} {st:St} {xs:XS},Ag st xs->Ag (st.zH l) (xs.zH l)
 | [],_,_,h=>h
 |id::r,_,_,h=>Ag.zH (l:=r) (h.xm id)
theorem Ag.renew(h:Ag st xs)(id:Nat)(o:Obj'):Ag (st.renew id o) (xs.renew id o):=by
 refine⟨h.n,h.next,by simp only[St.renew,XS.renew,h.own],h.base,λi hi H=>?_,λt=>?_⟩
 .simp only[St.renew] at hi H
  simp only[XS.renew];have G:=h.base;rcases List.mem_cons.1 H with e | H
  .subst e
   rw[show Nat.blt i xs.base=true from yQ.2 (by omega)]
   exact NA.2 (.inl rfl)
  .have:=h.moved i hi H
   split
   .exact NA.2 (.inr this)
   .exact this
 show za (yy id st.slots) t=Tr.get dep (Tr.map _ xs.slots) t
 rw[Nx,Tr.get_map,h.slots];rfl
theorem Ag.after(h:Ag st xs)(H:st.base<=st.next)(ids:List Nat)(nx:Nat)(own':List (Nat×Obj'))(mv:List Nat):Ag (st.after ids nx own' mv) (xs.after ids nx own' mv):=by
 refine⟨h.n,by simp only[St.after,XS.after,h.next],by simp only[St.after,XS.after,h.own,h.next],h.base,λi hi G=>?_,λt=>?_⟩
 .simp only[St.after] at hi G
  simp only[XS.after];rw[<-h.next];rcases List.mem_append.1 G with G | G
  .exact List.mem_append.2 (.inl G)
  .exact List.mem_append.2 (.inr (h.moved i hi G))
 show za (u7 _ st.slots) t=XS.get (xs.after ids nx own' mv) t
 rw[Ny,h.slots,h.next]
 cases mv with
 |nil=>
  show _=xs.get t
  cases xs.get t with
  |none=>rfl
  |some s=>simp[Nz]
 |cons m r=>
  show _=Tr.get dep (Tr.map _ xs.slots) t
  rw[Tr.get_map];rfl
end
structure XGood(P:Program)(Γ:XG):Prop where
 ti:∀ {t ti},Γ.ti t=some ti->TI.of P t=some ti
 zf:∀ {t},Γ.zf t=true->Zm P t=true
 ek:∀ {t ks},Γ.ek t=some ks->eqKinds P t=some ks
 fn:∀ {f n c rs},Γ.fn f=some (n,c,rs)->callable P f=true/\∃ fn,P.funcs[f]?=some fn/\fn.body=some c/\fn.ntmps=n/\fn.results.toList=rs
 kn:∀ {f g ds r},Γ.kn f=some g->g ds=some r->zj P f ds r
 kc:∀ {f g args own n r},Γ.kc f=some g->g args own n=some r->Sym.los n args->zA P f args own n r.s r.nx r.own r.mv
section
variable {P:Program} {Γ:XG} {look:Nat->Option Obj'} {ρ:Operand->Sym} {k:Sym->Prop} {s:Sym}
theorem NC{ti:TI}{l:List D}(h:JO ti l=some s)(H:k s):headD ti l k:=by
 unfold JO at h;unfold headD
 split at h
 .rename_i e;rw[zv,qF] at h;rw[if_pos e];obtain⟨G,h2⟩:=h;cases h2;exact⟨G,H⟩
 .rename_i e;rw[if_neg (by rw[e];decide)]
  split at h
  .cases h;exact H
  .cases h
theorem zb8{ti:TI}{l:List Sym}(h:Gs ti l=some s)(H:k s):k5 ti l k:=by
 unfold Gs at h;unfold k5
 split at h
 .rename_i e;rw[zv,qF] at h;rw[if_pos e];obtain⟨G,h2⟩:=h;cases h2;exact⟨G,H⟩
 .rename_i e;rw[if_neg (by rw[e];decide)]
  split at h
  .cases h;exact H
  .cases h
theorem zc4{ti:TI}{x:Sym}(h:Gt look ti x=some s)(H:k s):vz look ti x k:=by
 unfold Gt at h
 split at h
 .simp only[vz];exact NC h H
 .rename_i id off
  simp only[vz];cases G:look id with
  |none=>rw[G] at h;cases h
  |some o=>
   rw[G] at h;cases o <;> simp only at h ⊢ <;> first | exact zb8 h H | cases h
 .rename_i id sz i off
  simp only[vz];cases G:look id with
  |none=>rw[G] at h;cases h
  |some o=>
   rw[G] at h;cases o <;> simp only at h ⊢ <;> first
    |(rw[zv,Bool.and_eq_true,beq_iff,yQ] at h;exact⟨h.1.1,h.1.2,NC h.2 H⟩)
    |cases h
 .cases h
theorem zae{kd:TK}{x:Sym}{f:Nat}(h:Gu kd x f=some s)(H:k s):uZ kd x f k:=by
 have G:∀ {sz:Nat},(!Nat.beq sz 0)=true->sz≠0:=by intro sz h e;subst e;simp at h
 unfold Gu at h;unfold uZ
 split at h
 .split at h
  .rename_i hf;simp only[hf];rw[zv] at h;obtain⟨F,h2⟩:=h;cases h2;exact⟨G F,H⟩
  .rename_i hf;simp only[hf];rw[zv] at h;obtain⟨F,h2⟩:=h;cases h2;exact⟨G F,H⟩
  .rename_i hf;simp only[hf];rw[zv] at h;obtain⟨F,h2⟩:=h;cases h2;exact⟨G F,H⟩
  .cases h
 .cases h
theorem zb9{kd:TK}{x:Sym}{f:Nat}(h:Gv kd x f=some s)(H:k s):ga kd x f k:=by
 unfold Gv at h;unfold ga
 split at h
 .split at h
  .rename_i hf;simp only[hf]
   split at h
   .rw[zv,qF] at h;obtain⟨G,h2⟩:=h;cases h2;exact⟨G,H⟩
   .simp only[Bool.false_eq_true,if_false]
    split at h
    .rename_i hd;cases h;rw[hd];exact H
    .cases h
  .rename_i hf;simp only[hf]
   split at h
   .rw[zv,qF] at h;obtain⟨G,h2⟩:=h;cases h2;exact⟨G,H⟩
   .simp only[Bool.false_eq_true,if_false]
    split at h
    .rename_i hd;cases h;rw[hd];exact H
    .cases h
  .cases h
 .cases h
theorem zaf{esz:Nat}{x y:Sym}(h:Gw look esz x y=some s)(H:k s):jL look esz x y k:=by
 unfold Gw at h
 split at h
 .rw[zv] at h;simp only[Bool.and_eq_true,decide_eq_true_eq,beq_iff] at h;obtain⟨⟨⟨G,h2⟩,F⟩,E⟩:=h;cases E
  simp only[jL];exact⟨⟨G,h2⟩,F,H⟩
 .rename_i id _ n
  simp only[jL];cases K:look id with
  |none=>rw[K] at h;cases h
  |some o=>
   rw[K] at h;cases o <;> simp only at h ⊢ <;> first
    |(rw[zv] at h;simp only[Bool.and_eq_true,decide_eq_true_eq,beq_iff] at h;obtain⟨⟨⟨G,h2⟩,F⟩,E⟩:=h;cases E;exact⟨⟨G,h2⟩,F,H⟩)
    |cases h
 .cases h
theorem zca{x y:Sym}(h:Gx x y=some s)(H:k s):gb x y k:=by
 unfold Gx at h
 split at h
 .rw[zv] at h;simp only[Bool.and_eq_true,decide_eq_true_eq] at h
  obtain⟨⟨G,h2⟩,F⟩:=h;cases F;simp only[gb];exact⟨⟨G,h2⟩,H⟩
 .cases h
theorem F7{kd:IntKind}{n:Int}(h:ZG kd n=some s)(H:k s):arith kd n k:=by
 cases kd <;> simp only[ZG,arith] at h ⊢ <;> first
  |(rw[zv] at h;simp only[Bool.and_eq_true,decide_eq_true_eq] at h;obtain⟨G,h2⟩:=h;cases h2;split;(rw[IntWalk.i64_in n (by omega)];exact H);exact⟨G,H⟩)
  |(cases h;exact H)
theorem zbg{kd:IntKind}{a b:Int}{op:BinOp}(h:Gy kd a b op=some s)(H:k s):Y8 kd a b k op:=by
 cases op <;> simp only[Gy,Y8] at h ⊢ <;> first
  |exact F7 h H
  |(rw[zv] at h;obtain⟨G,h2⟩:=h;refine⟨by simpa using G,?_⟩;first |exact F7 h2 H |(cases h2;exact H))
  |(cases h;exact H)
  |cases h
theorem zgb(a:ByteArray):a.toList=bl a:=ByteArray.toList_eq a
theorem zbh{a b:ByteArray}{op:BinOp}(h:Gz a b op=some s)(H:k s):Y9 a b k op:=by
 cases op <;> simp only[Gz,Y9,zgb] at h ⊢ <;> first
  |(rw[zv,qF] at h;obtain⟨G,h2⟩:=h;cases h2;exact⟨by omega,H⟩)
  |(cases h;exact H)
  |cases h
theorem zax{a b:Bool}{op:BinOp}(h:GF a b op=some s)(H:k s):Ya a b k op:=by
 cases op <;> simp only[GF,Ya] at h ⊢ <;> first | (cases h;exact H) | cases h
theorem zed{op:BinOp}{x y:Sym}(h:GG op x y=some s)(H:k s):v8 op x y k:=by
 unfold GG at h
 split at h
 .split at h
  .rw[zv] at h;obtain⟨G,h2⟩:=h;cases h2;simp only[v8];exact⟨by simpa using G,H⟩
  .rw[zv] at h;obtain⟨G,h2⟩:=h;cases h2;simp only[v8];exact⟨by simpa using G,H⟩
  .rename_i n1 n2
   rw[zv] at h;obtain⟨G,h2⟩:=h;have G:_=_:=of_decide_eq_true G
   have F:=zbg h2 H;cases op <;> first | exact absurd rfl n1 | exact absurd rfl n2 | (simp only[v8];exact⟨G,F⟩)
 .simp only[v8];exact zbh h H
 .simp only[v8];exact zax h H
 .split at h
  .cases h;simp only[v8];intro b E;cases b
   .exact H
   .exact absurd (E rfl) (by simp)
  .cases h;simp only[v8];intro b E;cases b
   .exact H
   .exact absurd (E rfl) (by simp)
  .cases h
 .split at h
  .cases h;simp only[v8];exact H
  .cases h;simp only[v8];exact H
  .cases h
 .cases h
theorem zbi(G:XGood P Γ){op:BinOp}{t:Nat}{x y:Sym}(h:GH Γ op t x y=some s)(F:k s):gk P op t x y k:=by
 unfold GH at h
 split at h
 .split at h
  .rename_i ks H
   split at h
   .rename_i r hr
    simp only[gk,G.ek H,hr];split at h
    .cases h;exact F
    .cases h;exact F
    .cases h
   .cases h
  .cases h
 .cases h
theorem zgc{op:UnOp}{x:Sym}(h:GI op x=some s)(H:k s):kX op x k:=by
 unfold GI at h
 split at h
 .split at h
  .cases h;simp only[kX];exact H
  .cases h
 .split at h
  .simp only[kX];exact F7 h H
  .cases h
 .cases h
theorem zay{kd:TK}{x:Sym}(h:GK kd x=some s)(H:k s):kY kd x k:=by
 unfold GK at h
 split at h
 .cases h;simp only[kY];exact H
 .cases h;simp only[kY];exact H
 .cases h
theorem zaz{x:Sym}{i:Nat}(h:GL x i=some s)(H:k s):kZ x i k:=by
 unfold GL at h
 split at h
 .split at h
  .rename_i hx;cases h;simp only[kZ,hx];exact H
  .cases h
 .simp only[kZ,h];exact H
 .cases h
theorem zee{kd:TK}{x:Sym}(h:GM look kd x=some s)(H:k s):slen look kd x k:=by
 unfold GM at h
 split at h
 .cases h;simp only[slen];exact H
 .cases h;simp only[slen];exact H
 .cases h;simp only[slen];exact H
 .split at h
  .rename_i hx;cases h;simp only[slen,hx];exact H
  .cases h
 .cases h;simp only[slen];exact H
 .cases h
theorem zcb(H:XGood P Γ){kd:TK}{x:Sym}{lo hi:Option Sym}(h:GN Γ look kd x lo hi=some s)(G:k s):Zk P kd=true/\jq P look kd x lo hi k:=by
 unfold GN at h
 split at h
 .split at h
  .rename_i te o F E h2 K
   rw[zv] at h;simp only[Bool.and_eq_true,decide_eq_true_eq,List.all_eq_true,beq_iff] at h;obtain⟨⟨⟨⟨q1,q2⟩,q3⟩,q4⟩,q5⟩:=h;cases q5;simp only[jq,Zk,H.ti E,h2,K,elemSize];exact⟨rfl,⟨q1,q2,q3⟩,q4,G⟩
  .cases h
 .split at h
  .rename_i T sz rows te J E
   split at h
   .rename_i o F h2 K
    rw[zv] at h;simp only[Bool.and_eq_true,decide_eq_true_eq,beq_iff] at h;obtain⟨⟨⟨⟨q1,q2⟩,q3⟩,q4⟩,q5⟩:=h;cases q5;simp only[jq,Zk,H.ti E,J,h2,K,elemSize];refine⟨rfl,⟨q1,q2,q3⟩,q4,?_⟩
    by_cases e:o=F
    .rw[if_pos e];simpa[e] using G
    .rw[if_neg e];simpa[e] using G
   .cases h
  .cases h
 .split at h
  .rename_i o F h2 K
   rw[zv] at h;simp only[Bool.and_eq_true,decide_eq_true_eq] at h;obtain⟨⟨⟨q1,q2⟩,q3⟩,q5⟩:=h;cases q5;simp only[jq,Zk,h2,K];exact⟨trivial,⟨q1,q2,q3⟩,G⟩
  .cases h
 .cases h
theorem zef{x:Sym}(h:GQ x=some s)(H:k s):gd x k:=by
 unfold GQ at h
 split at h <;> first | (cases h;simp only[gd];exact H) | cases h
theorem zc5{ti:TI}(h:GR ti=some s)(H:k s):zeroS ti k:=by
 unfold GR at h;unfold zeroS
 split at h
 .rename_i e;rw[zv] at h;obtain⟨G,h2⟩:=h;cases h2;rw[if_pos e];exact⟨G,H⟩
 .rename_i e;rw[if_neg (by rw[e];decide)]
  split at h
  .rename_i hz;cases h;rw[hz];exact H
  .cases h
theorem zbj{kk:TK}{te:TI}{c:Bool}{m x:Sym}(h:GU look kk te c m x=some s)(H:k s):wm look kk te c m x k:=by
 unfold GU at h
 split at h
 .rename_i rows y hr
  rw[zv] at h;obtain⟨G,h⟩:=h;simp only[wm,hr];refine⟨G,?_⟩
  split at h
  .rename_i v hv;cases h;rw[hv];cases c <;> exact H
  .rename_i hv
   rw[hv];split at h
   .rename_i z F;cases h
    refine zc5 F ?_
    cases c <;> exact H
   .cases h
  .cases h
 .cases h
theorem zcc{ti:TI}{parts:List (Nat×Sym)}(h:GV ti parts=some s)(H:k s):gq ti parts k:=by
 unfold GV at h
 split at h
 .rename_i fs hkd
  rw[zv] at h;obtain⟨G,h⟩:=h;simp only[gq,hkd];refine⟨G,?_⟩
  split at h
  .rename_i out ho;cases h;rw[ho];exact H
  .cases h
 .cases h
theorem F8(G:XGood P Γ){op:Op}(h:YN Γ look ρ op=some s)(F:k s):ye P look ρ op k:=by
 unfold YN at h
 split at h
 .cases h;simp only[ye,yG];exact F
 .cases h;simp only[ye,yG];exact F
 .rename_i c x y
  simp only[ye,yG];split at h
  .rename_i e;cases h;rw[e];simp only[Zl,if_true];exact F
  .rename_i e;cases h;rw[e];simp only[Zl,Bool.false_eq_true,if_false];exact F
  .cases h
 .split at h
  .rename_i E;simp only[ye,yG,G.ti E];exact zc4 h F
  .cases h
 .split at h
  .rename_i E;simp only[ye,yG,G.ti E];exact zae h F
  .cases h
 .split at h
  .rename_i E;simp only[ye,yG,G.ti E];exact zb9 h F
  .cases h
 .split at h
  .rename_i E
   split at h
   .rename_i ht2;simp only[ye,yG,G.ti E,G.ti ht2];exact zaf h F
   .cases h
  .cases h
 .split at h
  .rename_i E;simp only[ye,yG,G.ti E];exact zca h F
  .cases h
 .split at h
  .rename_i E;simp only[ye,yG,G.ti E];exact zcb G h F
  .cases h
 .split at h
  .rename_i E
   simp only[ye,yG,G.ti E];split at h
   .rename_i e1 e2;right;rw[e1,e2];exact zbi G h F
   .rename_i e;rw[zv] at h;left;exact⟨h.1,zed h.2 F⟩
  .cases h
 .simp only[ye,yG];exact zgc h F
 .split at h
  .rename_i K h2;simp only[ye,yG,G.ti K,G.ti h2];exact zay h F
  .cases h
 .simp only[ye,yG];exact zaz h F
 .split at h
  .rename_i E
   split at h
   .rename_i K h2;rw[zv] at h;simp only[ye,yG,G.ti E,G.ti K,G.ti h2];exact⟨G.zf h.1,zbj h.2 F⟩
   .cases h
  .cases h
 .simp only[ye,yG];exact zef h F
 .split at h
  .rename_i J L
   split at h
   .rename_i E;simp only[ye,yG,J,L,G.ti E];exact zee h F
   .cases h
  .cases h
 .simp only[ye,yG]
  split at h
  .rename_i heq;rw[heq];cases h;simp only[u0];rename_i a _ b
   by_cases e:b>a
   .simpa[e] using F
   .simpa[e] using F
  .cases h
 .simp only[ye,yG]
  split at h
  .rename_i heq;rw[heq];cases h;simp only[u0];rename_i a _ b
   by_cases e:b<a
   .simpa[e] using F
   .simpa[e] using F
  .cases h
 .split at h
  .rename_i E;simp only[ye,G.ti E];exact zcc h F
  .cases h
 .rename_i t n parts
  split at h
  .rename_i e _ _ _ _ E
   split at h
   .rename_i te xs H hin
    split at h
    .rename_i rows hrows
     rw[zv] at h;simp only[Bool.and_eq_true,beq_iff,yQ,qF] at h;obtain⟨⟨⟨K,h2⟩,M⟩,h⟩:=h;cases h;simp only[ye,Zs];rw[G.ti E];simp only;rw[G.ti H];simp only;rw[hin];simp only;rw[hrows];exact⟨K,h2,M,F⟩
    .cases h
   .cases h
  .cases h
 .split at h
  .rename_i hf;cases h;simp only[ye,hf];exact F
  .cases h
 .cases h
end
end Go.V
namespace Go.V
variable [Dr] [Ov]
open Go.RowKit
def yY(P:Program)(call:Caller):Prop:=∀ f args own n r,call f args own n=some r->Sym.los n args->zA P f args own n r.s r.nx r.own r.mv
theorem kD:∀ {ids:List Nat} {i:Nat},i∈ids->rho ids (xi ids i)=i/\xi ids i<ids.length
 |j::r,i,h=>by
  simp only[xi];cases G:Nat.beq i j with
  |true=>rw[beq_iff] at G;subst G;simp[rho]
  |false=>
   have H:i≠j:=λe=>by rw[beq_iff.2 e] at G;cases G
   have F:i∈r:=by rcases List.mem_cons.1 h with h | h;exact absurd h H;exact h
   obtain⟨E,h2⟩:=kD F;simp only[rho] at E ⊢;simp only[List.getD_cons_succ,List.length_cons];exact⟨E,by omega⟩
mutual
theorem zij{ids:List Nat}:∀ {s:Sym},vX ids s=true->ren (rho ids) (ren (xi ids) s)=s/\Sym.lo ids.length (ren (xi ids) s)
 |.bp i o,h=>by simp only[vX,any_beq] at h;have:=kD h;simp only[ren,Sym.lo];exact⟨by rw[this.1],this.2⟩
 |.ar i,h=>by simp only[vX,any_beq] at h;have:=kD h;simp only[ren,Sym.lo];exact⟨by rw[this.1],this.2⟩
 |.ap i s j o,h=>by simp only[vX,any_beq] at h;have:=kD h;simp only[ren,Sym.lo];exact⟨by rw[this.1],this.2⟩
 |.aS i s j o,h=>by simp only[vX,any_beq] at h;have:=kD h;simp only[ren,Sym.lo];exact⟨by rw[this.1],this.2⟩
 |.av i s j o,h=>by simp only[vX,any_beq] at h;have:=kD h;simp only[ren,Sym.lo];exact⟨by rw[this.1],this.2⟩
 |.yd i,h=>by simp only[vX,any_beq] at h;have:=kD h;simp only[ren,Sym.lo];exact⟨by rw[this.1],this.2⟩
 |.mp i,h=>by simp only[vX,any_beq] at h;have:=kD h;simp only[ren,Sym.lo];exact⟨by rw[this.1],this.2⟩
 |.tup l,h=>by simp only[vX] at h;have:=gV h;simp[ren,Sym.lo,this.1,this.2]
 |.agg l,h=>by simp only[vX] at h;have:=gV h;simp[ren,Sym.lo,this.1,this.2]
 |.fn f l,h=>by simp only[vX] at h;have:=gV h;simp[ren,Sym.lo,this.1,this.2]
 |.d x,h=>by simp[ren,Sym.lo]
 |.nils,h=>by simp[ren,Sym.lo]
 |.junk,h=>by simp[ren,Sym.lo]
theorem gV{ids:List Nat}:∀ {l:List Sym},vJ ids l=true->yl (rho ids) (yl (xi ids) l)=l/\Sym.los ids.length (yl (xi ids) l)
 | [],h=>by simp[yl,Sym.los]
 |s::r,h=>by
  simp only[vJ,Bool.and_eq_true] at h;have H:=zij h.1;have h2:=gV h.2;simp[yl,Sym.los,H.1,H.2,h2.1,h2.2]
end
theorem ND{ids:List Nat}{o:Obj'}(h:QL ids o=true):qp (rho ids) (qp (xi ids) o)=o/\(qp (xi ids) o).lo ids.length:=by
 cases o with
 |box T cells=>simp only[QL] at h;have:=gV h;simp[qp,Obj'.lo,this.1,this.2]
 |arr T sz rows=>simp[qp,Obj'.lo]
 |map T rows=>simp[qp,Obj'.lo]
 |raw k cells=>simp only[QL] at h;have:=gV h;simp[qp,Obj'.lo,this.1,this.2]
theorem JW:∀ {l:List Nat},nodupB l=true->l.Nodup
 | [],_=>List.nodup_nil
 |i::r,h=>by
  simp only[nodupB,Bool.and_eq_true,Bool.not_eq_true'] at h;refine List.nodup_cons.2 ⟨λhm=>?_,JW h.2⟩
  rw[any_beq.2 hm] at h;cases h.1
theorem F9{look:Nat->Option Obj'}{ids:List Nat}:∀ {k:Nat} {l:List Nat} {own0:List (Nat×Obj')},gP look ids k l=some own0->(∀ j x,l[j]?=some x->rho ids (k+j)=x) ->
  own0.map (·.1)=List.range' k l.length/\(∀ i o,(i,o)∈own0->∃ o',look (rho ids i)=some o'/\o=qp (xi ids) o'/\QL ids o'=true)/\∀ i∈l,∃ o,look i=some o
 |k,[],own0,h,_=>by simp[gP] at h;subst h;simp
 |k,i::r,own0,h,G=>by
  simp only[gP] at h;split at h
  .rename_i o F
   split at h
   .rename_i H
    split at h
    .rename_i l E
     cases h;obtain⟨K,h2,J⟩:=F9 E (λj x L=>by have:=G (j+1) x (by simpa using L);rw[<-this];congr 1;omega)
     have M:rho ids k=i:=G 0 i (by simp)
     refine⟨by simp only[List.map_cons,List.length_cons,List.range'_succ,K],?_,?_⟩
     .intro i' o' O
      rcases List.mem_cons.1 O with e | O
      .cases e;exact⟨o,by rw[M];exact F,rfl,H⟩
      .exact h2 i' o' O
     .intro i' O
      rcases List.mem_cons.1 O with e | O
      .subst e;exact⟨o,F⟩
      .exact J i' O
    .cases h
   .cases h
  .cases h
theorem Fa{st:St}{ids:List Nat}:∀ {l:List (Nat×Obj')},(∀ i o,(i,o)∈l->st.look (rho ids i)=some (qp (rho ids) o)/\o.lo ids.length)->Zw st ids l
 | [],_=>trivial
 |(i,o)::r,h=>by
  simp only[Zw];obtain⟨H,h2⟩:=h i o (by simp)
  rw[H];exact⟨rfl,h2,Fa λi' o' G=>h i' o' (List.mem_cons_of_mem _ G)⟩
section
variable {P:Program} {Γ:XG} {call:Caller} {X:Nat->Prop} {w0:Base} {st:St} {xs xs':XS} {β:Nat->Value} {a:Act} {w:World}
theorem NF(J:yY P call)(H:Ag st xs)(L:Mods X w0 st β a w){f:Operand}{args:List Operand}{dst:Option Tmp}{g n:Nat}{caps:List Sym}(G:yB (st.val f)=some (g,caps))
  (M:qS dst n=true) (h:gQ call xs g (args.map st.val++caps) dst=some xs'):J6 P st f args dst (λst'=>Ag st' xs'):=by
 unfold gQ at h
 simp only at h
 generalize E:reach xs.look 1000 (vW (args.map st.val++caps) []) (vW (args.map st.val++caps) [])=ids at h
 split at h
 .rename_i own0 O
  rw[zv,Bool.and_eq_true] at O;obtain⟨⟨Q,K⟩,O⟩:=O;split at h
  .rename_i r T
   cases h;obtain⟨V,h2⟩:=gV K;obtain⟨q1,q2,q3⟩:=F9 O (λj x Y=>by simp[rho,Y])
   refine⟨g,caps,ids,yl (xi ids) (args.map st.val++caps),own0,r.s,r.nx,r.own,r.mv,G,V,h2,⟨JW Q,?_,by rw[q1,List.range_eq_range'],?_⟩,J _ _ _ _ _ T h2,?_⟩
   .intro id hid
    obtain⟨o,Z⟩:=q3 id hid;rw[<-H.look] at Z;exact(L.obj Z).1
   .refine Fa λi o F=>?_
    obtain⟨o',A,B,C⟩:=q2 i o F;obtain⟨I,N⟩:=ND C;rw[H.look,B,I];exact⟨A,N⟩
   .rw[H.next]
    exact(H.after L.still.1 ids r.nx r.own r.mv).put M _
  .cases h
 .cases h
theorem QR{w:World}{E:Nat->Prop}{β:Nat->Value}:∀ {l:List Sym} {ds:List D} {vs:List Value},yM l=some ds->zb w E β l vs->zt w E ds vs
 | [],ds,vs,h,hs=>by simp[yM] at h;subst h;simpa[zb,zt] using hs
 |s::r,ds,vs,h,hs=>by
  simp only[yM] at h;split at h
  .rename_i x xs G H
   cases h;simp only[zb] at hs;obtain⟨v,vs',rfl,F,h2⟩:=hs;simp only[zt];refine⟨v,vs',rfl,?_,QR H h2⟩
   cases s <;> simp only[kW] at G <;> cases G
   .simpa[Sm] using F
   .simp only[Sm] at F;subst F;simp only[R];exact⟨none,0,rfl,by simp,by simp,λ_=>rfl,by simp⟩
  .cases h
theorem NG{f:Nat}{ds:List D}{r:D}{nx:Nat}{own:List (Nat×Obj')}{mv:List Nat}(h:zA P f (ds.map .d) [] 0 (.d r) nx own mv):zj P f ds r:=by
 refine⟨h.1,λw E vs F K=>?_⟩
 have J:Mods E (.of w) (zR [] 0 0 []) (λ_=>.pointer none) xx w:=
  ⟨⟨λb L hmay=>hmay.elim (λh=>by have:w.heap.size<=b:=h;have:=F.1 b L;omega) (λh=>h),F.2.over (Over.less λb h=>h.elim id False.elim)⟩,⟨Nat.le_refl _,λ_ _ _=>rfl⟩,λ_=>rfl,rfl,rfl,Kept.refl _,by simp[zR],by simp[zR],by simp[zR],by intro t s M;simp[zR,za] at M⟩
 have H:Over w E w (Ex E (λ_=>Value.pointer none) []):=Over.less λb L=>L.elim id λ⟨_,_,O,_⟩=>by cases O
 refine(h.2 E (.of w) _ w vs rfl J (zb.vB (zt.over H _ _ K))).mono λe w' Q=>?_
 obtain⟨β',v,rfl,G,_,hs⟩:=Q
 simp only[Sm] at hs
 exact⟨v,rfl,G.below.below,R.over (Over.less λb L=>.inl L) _ _ hs⟩
theorem za0{f:Nat}{args:List Sym}{ds:List D}{r:D}{own:List (Nat×Obj')}{n:Nat}(h:zj P f ds r)(F:yM args=some ds):zA P f args own n (.d r) n own []:=by
 refine⟨h.1,λX w0 β w vs hβ E hs=>?_⟩
 have K:zt w (Ex X β own) ds vs:=QR F hs
 refine(h.2 w (Ex X β own) vs E.seen K).mono λe w' J=>?_
 obtain⟨v,rfl,L,H⟩:=J
 have G:=E.put L (dst:=none) (s:=.junk) (v:=v) (by simp) (by simp[Sym.lo]) (by simp[Sm])
 exact⟨β,v,rfl,G,by simp[Sym.lo],by simpa[Sm] using H⟩
theorem orElse_some{α:Type}{x y:Option α}{r:α}(h:orElse' x y=some r):x=some r\/y=some r:=by
 unfold orElse' at h
 split at h
 .exact .inl h
 .exact .inr h
theorem zbk(O:yY P call)(H:Ag st xs)(Q:Mods X w0 st β a w){o:Oper}{f:Operand}{args:Array Operand}{ts:Array TypeId}(T:o.op = .call {callee:=.value f,args,argTypes:=ts})
  {n:Nat} (V:qS o.dst n=true) (K:∀ t,o.dst=some t->t<st.n) (h:GZ Γ call xs f args.toList o.dst=some xs'):Goes P X w0 o a w (λst'=>Ag st' xs'):=by
 unfold GZ at h
 rw[<-H.val] at h
 split at h
 .rename_i g caps G
  have k1:gQ call xs g (args.toList.map st.val++caps) o.dst=some xs'->Goes P X w0 o a w (λst'=>Ag st' xs'):=λh=>J7 Q T K (NF O H Q G V h)
  have k2:GY call xs g (args.toList.map st.val++caps) o.dst=some xs'->Goes P X w0 o a w (λst'=>Ag st' xs'):=by
   intro h;unfold GY at h;split at h
   .rw[<-H.look] at h
    split at h
    .rename_i ds b hl
     split at h
     .rename_i r nx own' mv Y
      rw[zv] at h;obtain⟨M,h⟩:=h;cases h;have Z:=NG (O _ _ _ _ _ Y (Sym.Yc 0 ds));refine UD Q T K ?_
      unfold km jN;rw[G];simp only[hl];exact .inl ⟨r,Z,λ_=>.inl M,H.put V _⟩
     .cases h
    .cases h
   .cases h
  have k3:∀ L,QM call xs f args.toList o.dst L=some xs'->Goes P X w0 o a w (λst'=>Ag st' xs'):=by
   intro L h;unfold QM at h;have F:Ag (st.zH L) (xs.zH L):=H.zH
   have J:Mods X w0 (st.zH L) β a w:=Q.zH
   rw[<-F.val] at h;split at h
   .rename_i g' caps' E
    exact J7 J T (λt e=>by rw[(Q5 L st).2];exact K t e) (NF O F J E V h)
   .cases h
  simp only at h
  split at h
  .exact k1 h
  .split at h
   .rcases orElse_some h with h | h
    .exact k2 h
    .rcases orElse_some h with h | h
     .exact k1 h
     .exact k3 _ h
   .split at h
    .rcases orElse_some h with h | h
     .exact k1 h
     .exact k3 _ h
    .rcases orElse_some h with h | h
     .exact k3 _ h
     .exact k1 h
 .cases h
end
end Go.V
namespace Go.V
variable [Dr] [Ov]
open Go.RowKit
section
variable {P:Program} {Γ:XG} {call:Caller} {X:Nat->Prop} {w0:Base} {st:St} {xs xs':XS} {β:Nat->Value} {a:Act} {w:World}
theorem JX(look:St)(id:Nat)(s:Sym){l:List (List D)}(h:YO look.look id s=some l):qA look id s=some l:=by
 unfold YO at h
 split at h
 .exact h
 .exact h
 .rename_i j
  split at h
  .cases h
  .rename_i H
   simp only[qA];rw[if_neg (λe=>by rw[beq_iff.2 e] at H;cases H)]
   exact h
 .rename_i j sz lo n
  split at h
  .cases h
  .rename_i H
   simp only[qA];rw[if_neg (λe=>by rw[beq_iff.2 e] at H;cases H)]
   split at h
   .rename_i T sz' rows hl
    rw[zv,Bool.and_eq_true,beq_iff,qF] at h;rw[hl];simp only;rw[if_pos h.1];exact h.2
   .cases h
 .cases h
theorem JY{n:Nat}{l:List (List D)}(h:l.all (λr=>Nat.beq r.length n)=true):∀ r∈l,r.length=n:=by
 intro r H
 exact beq_iff.1 (List.all_eq_true.1 h r H)
theorem JZ(O:XGood P Γ)(Q:yY P call)(H:Ag st xs)(V:Mods X w0 st β a w){o:Oper}(h:ux Γ call o xs=some xs'):Goes P X w0 o a w (λst'=>Ag st' xs'):=by
 unfold ux at h
 rw[zv] at h
 obtain⟨Y,h⟩:=h
 have G:∀ t,o.dst=some t->t<st.n:=λt e=>by rw[H.n];exact(wE Y).1 t e
 rw[<-H.val,<-H.look] at h
 split at h
 .rename_i T x Z
  split at h
  .rename_i l A
   cases h;refine Hj V Z G ?_
   unfold Zn;rw[A];simp only;rw[H.next];exact(H.new _).put Y _
  .cases h
 .rename_i T Z
  split at h
  .rename_i ti B
   rw[zv] at h;obtain⟨C,h⟩:=h;cases h;refine Hk V Z (O.ti B) G ⟨C,?_⟩
   rw[H.next];exact(H.new _).put Y _
  .cases h
 .rename_i Z
  split at h
  .rename_i e _ _ _ _ B
   split at h
   .rename_i te hte
    cases h;refine Hl V Z G (e:=e) (sz:=te.size) ?_
    unfold VX;rw[H.next];exact(H.new _).put Y _
   .cases h
  .cases h
 .rename_i t n parts Z
  split at h
  .rename_i e _ _ _ _ B
   split at h
   .rename_i te hte
    split at h
    .rename_i l A
     simp only at h
     have E:Ag (st.zH (ve (l.map st.val))) (xs.zH (ve (l.map st.val))):=H.zH
     rw[<-E.val] at h;split at h
     .rename_i rows hrows
      rw[zv] at h;simp only[Bool.and_eq_true,beq_iff,yQ,qF] at h;obtain⟨⟨⟨C,h2⟩,I⟩,h⟩:=h;cases h;refine HG V Z G ?_
      unfold Zu;rw[O.ti B];simp only;rw[O.ti hte];simp only;rw[A];simp only;refine⟨C,h2,I,?_⟩
      rw[hrows];simp only;rw[E.next];exact(E.new _).put Y _
     .cases h
    .cases h
   .cases h
  .cases h
 .rename_i t ad x Z
  split at h
  .rename_i ti J B
   refine Hq V Z (O.ti B) J ?_
   unfold kh;split at h
   .rename_i id off had
    rw[had];simp only;split at h
    .rename_i T cells F
     rw[F];simp only;split at h
     .rename_i l A
      rw[zv] at h;simp only[Bool.and_eq_true,beq_iff,qF] at h;obtain⟨⟨C,h2⟩,h⟩:=h;cases h;rw[A];exact⟨C,h2,H.set id _⟩
     .cases h
    .cases h
   .rename_i id sz i off had
    rw[had];simp only;split at h
    .rename_i T sz' rows F
     rw[F];simp only;split at h
     .rename_i l A
      rw[A];simp only;split at h
      .rename_i ds hds
       rw[zv] at h;simp only[Bool.and_eq_true,beq_iff,qF,yQ] at h;obtain⟨⟨⟨⟨C,h2⟩,I⟩,N⟩,h⟩:=h;cases h;rw[hds];exact⟨C,h2,I,N,H.set id _⟩
      .cases h
     .cases h
    .cases h
   .cases h
  .cases h
 .rename_i t l c Z
  refine HU V Z G ?_
  unfold Qe;split at h
  .rename_i e _ _ _ _ _ ln _ cn B A hcv
   rw[O.ti B,A,hcv];simp only;split at h
   .rename_i te hte
    rw[O.ti hte];simp only;split at h
    .rename_i x S
     rw[zv] at h;simp only[Bool.and_eq_true,beq_iff,yQ,decide_eq_true_eq] at h;obtain⟨⟨⟨⟨⟨⟨⟨W,C⟩,h2⟩,I⟩,N⟩,h5⟩,h6⟩,h⟩:=h;cases h;rw[S];refine⟨W,C,h2,I,N,h5,h6,?_⟩;rw[H.next];exact(H.new _).put Y _
    .cases h
   .cases h
  .cases h
 .rename_i t Z
  cases h;refine HN V Z G ?_
  unfold J3;rw[H.next];exact(H.new _).put Y _
 .rename_i t m x v Z
  split at h
  .rename_i id x' v' kt _ _ _ _ _ J M S hv B
   refine HS V Z J ?_
   unfold Qd;rw[M,S,hv,O.ti B];simp only;split at h
   .rename_i T rows tk F htk
    rw[F,O.ti htk];simp only;split at h
    .rename_i rows' hp
     rw[zv] at h;obtain⟨C,h⟩:=h;cases h;rw[hp];exact⟨C,H.set _ _⟩
    .cases h
   .cases h
  .cases h
 .rename_i xs' ts Z
  split at h
  .rename_i s x t t' S B
   have e1:xs' = #[s,x]:=by cases xs';simp at S;rw[S]
   have e2:ts = #[t,t']:=by cases ts;simp at B;rw[B]
   subst e1;subst e2;refine HJ V Z G ?_
   unfold Zv;split at h
   .rename_i e _ _ _ _ hte
    rw[O.ti hte];simp only;split at h
    .rename_i te K
     rw[O.ti K];simp only;split at h
     .rename_i id hs
      rw[hs];simp only;split at h
      .rename_i T sz rows l F hsrc
       rw[zv] at h;simp only[Bool.and_eq_true,beq_iff,qF,yQ] at h;obtain⟨⟨⟨⟨⟨⟨⟨⟨⟨C,h2⟩,I⟩,L⟩,N⟩,h5⟩,h6⟩,h7⟩,h8⟩,h⟩:=h;cases h;refine⟨C,h2,I,L,?_⟩
       rw[F,JX st id _ hsrc];simp only;exact⟨N,h5,JY h6,h7,h8,(H.renew id _).put Y _⟩
      .cases h
     .rename_i hs
      rw[hs];simp only;have E:Ag (st.new (.arr e te.size [])) (xs.new (.arr e te.size [])):=H.new _
      rw[<-E.look,<-H.next] at h;split at h
      .rename_i l hsrc
       rw[zv] at h;simp only[Bool.and_eq_true,beq_iff,qF,yQ] at h;obtain⟨⟨⟨⟨⟨⟨⟨C,h2⟩,I⟩,L⟩,h6⟩,h7⟩,h8⟩,h⟩:=h;cases h;refine⟨C,h2,I,L,?_⟩
       rw[JX (st.new (.arr e te.size [])) st.next _ hsrc];simp only;exact⟨JY h6,h7,h8,(E.renew st.next _).put Y _⟩
      .cases h
     .cases h
    .cases h
   .cases h
  .cases h
 .rename_i xs' ts Z
  split at h
  .rename_i d s t t' S B
   have e1:xs' = #[d,s]:=by cases xs';simp at S;rw[S]
   have e2:ts = #[t,t']:=by cases ts;simp at B;rw[B]
   subst e1;subst e2;refine HK V Z G ?_
   unfold Q8;split at h
   .rename_i e _ _ _ _ hte
    rw[O.ti hte];simp only;split at h
    .rename_i te l K hsrc
     rw[O.ti K];simp only;rw[zv,Bool.and_eq_true,yQ] at h;obtain⟨⟨C,h2⟩,h⟩:=h;rw[<-H.next] at hsrc;rw[JX st st.next _ hsrc];simp only;refine⟨C,JY h2,?_⟩
     split at h
     .rename_i hds
      cases h;rw[hds];exact H.put Y _
     .rename_i id sz lo n hds
      rw[hds];simp only;split at h
      .rename_i T sz' rows F
       rw[zv] at h;simp only[Bool.and_eq_true,beq_iff,qF] at h;obtain⟨⟨⟨I,N⟩,h5⟩,h⟩:=h;cases h;rw[F];exact⟨I,N,h5,(H.set id _).put Y _⟩
      .cases h
     .rename_i id hds
      rw[hds];simp only;split at h
      .rename_i T sz' rows F
       rw[zv,beq_iff] at h;obtain⟨N,h⟩:=h;cases h;rw[F];exact⟨N,(H.set id _).put Y _⟩
      .cases h
     .cases h
    .cases h
   .cases h
  .cases h
 .rename_i xs' ts Z
  split at h
  .rename_i x t S B
   have e1:xs' = #[x]:=by cases xs';simp at S;rw[S]
   have e2:ts = #[t]:=by cases ts;simp at B;rw[B]
   subst e1;subst e2;refine HL V Z G ?_
   unfold Qc;split at h
   .rename_i e _ _ _ _ hte
    rw[O.ti hte];simp only;split at h
    .rename_i te K
     rw[O.ti K];simp only;split at h
     .rename_i z hz
      rw[hz];simp only;rw[zv,Bool.and_eq_true,beq_iff] at h;obtain⟨⟨C,h2⟩,h⟩:=h;refine⟨C,h2,?_⟩
      split at h
      .rename_i hds
       cases h;rw[hds];exact H.put Y _
      .rename_i id sz lo n hds
       rw[hds];simp only;split at h
       .rename_i T sz' rows F
        rw[zv] at h;simp only[Bool.and_eq_true,beq_iff,qF] at h;obtain⟨⟨⟨I,N⟩,h5⟩,h⟩:=h;cases h;rw[F];exact⟨I,N,h5,(H.set id _).put Y _⟩
       .cases h
      .cases h
     .cases h
    .cases h
   .cases h
  .cases h
 .rename_i t x Z
  split at h
  .rename_i s B S
   cases h;refine HW V Z G ?_
   unfold Qf;rw[O.ti B,S];simp only;rw[H.next];exact(H.new _).put Y _
  .cases h
 .rename_i x Z
  split at h
  .rename_i id S
   split at h
   .rename_i s pos F
    cases h;refine HZ V Z G ?_
    unfold Qg;rw[S];simp only;rw[F];simp only;exact(H.set id _).put Y _
   .cases h
  .cases h
 .rename_i s t x Z
  split at h
  .rename_i y hy
   cases h;rw[<-Z] at hy;exact Goes.gn V G (Zt V o (F8 O hy (H.put Y y)))
  .split at h
   .rename_i e _ _ _ _ _ _ _ _ hs B
    split at h
    .rename_i rows he hsrc
     split at h
     .rename_i bs hbs
      cases h;refine Goes.gn V G (Ux V Z ?_)
      unfold vf;rw[O.ti hs,O.ti B];simp only;rw[O.ti he];simp only;rw[<-H.next] at hsrc;rw[JX st st.next _ hsrc];simp only;rw[hbs];exact H.put Y _
     .cases h
    .cases h
   .rename_i e _ _ _ _ hs B
    split at h
    .rename_i b he S
     obtain⟨hb,h⟩:=zv.1 h;cases h;refine Goes.gn V G (Ux V Z ?_)
     unfold vf;rw[O.ti hs,O.ti B];simp only;rw[O.ti he,S];simp only;exact⟨Nat.le_of_ble_eq_true hb,H.put Y _⟩
    .cases h
   .cases h
 .rename_i f args ts Z
  exact zbk Q H V Z Y G h
 .split at h
  .rename_i s hs
   cases h;exact Goes.gn V G (Zt V o (F8 O hs (H.put Y s)))
  .cases h
end
end Go.V

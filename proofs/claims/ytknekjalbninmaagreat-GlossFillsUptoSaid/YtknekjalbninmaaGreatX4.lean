/- A program logic of my own over the kit: part X4. It needs no conditions. -/
import Derived.Test.YtknekjalbninmaaGreatV31
set_option linter.unusedVariables false
set_option linter.unusedSimpArgs false
set_option linter.unusedSectionVars false
namespace Go.V
variable [Dr] [Ov]
open Go.RowKit
inductive Tr where
 |leaf
 |node (v:Option Sym) (l r:Tr)
 deriving Inhabited
def Tr.get:Nat->Tr->Nat->Option Sym
 |0,_,_=>none
 |_+1,.leaf,_=>none
 |k+1,.node v l r,t=>match t with
  |0=>v
  |u+1=>match Nat.beq (u%2) 0 with
   |true=>Tr.get k l (u/2)
   |false=>Tr.get k r (u/2)
def Tr.put:Nat->Tr->Nat->Sym->Tr
 |0,x,_,_=>x
 |k+1,x,t,s=>match x with
  |.leaf=>match t with
   |0=>.node (some s) .leaf .leaf
   |u+1=>match Nat.beq (u%2) 0 with
    |true=>.node none (Tr.put k .leaf (u/2) s) .leaf
    |false=>.node none .leaf (Tr.put k .leaf (u/2) s)
  |.node v l r=>match t with
   |0=>.node (some s) l r
   |u+1=>match Nat.beq (u%2) 0 with
    |true=>.node v (Tr.put k l (u/2) s) r
    |false=>.node v l (Tr.put k r (u/2) s)
def Tr.map(f:Sym->Sym):Tr->Tr
 |.leaf=>.leaf
 |.node v l r=>.node (v.map f) (Tr.map f l) (Tr.map f r)
def zkt(i:Nat)(l:List Nat):List Nat:=match l.any (Nat.beq i) with
 |true=>l
 |false=>l++[i]
structure XS where
 n:Nat
 next:Nat
 slots:Tr
 own:List (Nat×Obj')
 base:Nat
 moved:List Nat
 deriving Inhabited
def dep:Nat:=12
def XS.get(xs:XS)(t:Nat):Option Sym:=xs.slots.get dep t
def zlp{α:Type}:List (Nat×α)->Nat->Option α
 | [],_=>none
 |(k,v)::r,t=>match Nat.beq k t with
  |true=>some v
  |false=>zlp r t
def XS.look(xs:XS)(id:Nat):Option Obj':=zlp xs.own id
def XS.val(xs:XS):Operand->Sym
 |.tmp t=>match xs.get t with
  |some s=>s
  |none=>.junk
 |.const v=>ofConst v
 |.func f=>.fn f []
 |.global g=>match zac GT g with
  |some l=>.d (.ptr l)
  |none=>.junk
def XS.put(xs:XS)(dst:Option Tmp)(s:Sym):XS:=
 match dst with
 |some t=>{xs with slots:=xs.slots.put dep t s}
 |none=>xs
def XS.new(xs:XS)(o:Obj'):XS:={xs with next:=xs.next+1,own:=(xs.next,o)::xs.own}
def xset(id:Nat)(v:Obj'):List (Nat×Obj')->List (Nat×Obj')
 | []=>[(id,v)]
 |(k,u)::r=>match Nat.beq k id with
  |true=>(k,v)::r
  |false=>(k,u)::xset id v r
def XS.set(xs:XS)(id:Nat)(o:Obj'):XS:={xs with own:=xset id o xs.own}
def XS.frz(xs:XS)(id:Nat):XS:=
 match xs.look id with
 |some (.arr _ _ rows)=>{xs with slots:=xs.slots.map (thaw id (.sl rows)),own:=zcm id (.sl rows) xs.own}
 |some (.map _ rows)=>{xs with slots:=xs.slots.map (thaw id (.mp rows)),own:=zcm id (.mp rows) xs.own}
 |_=>xs
def XS.frzs(xs:XS):List Nat->XS
 | []=>xs
 |id::r=>(xs.frz id).frzs r
def XS.renew(xs:XS)(id:Nat)(o:Obj'):XS:={xs with moved:=(match Nat.blt id xs.base with | true=>zkt id xs.moved | false=>xs.moved),slots:=xs.slots.map (za2 id),own:=zbz id o xs.own}
structure XR where
 s:Sym
 nx:Nat
 own:List (Nat×Obj')
 mv:List Nat
structure XG where
 ti:Nat->Option TI
 zf:Nat->Bool
 ek:Nat->Option (List TK)
 fn:Nat->Option (Nat×Code×List ResultVar)
 sc:Nat->Bool
 kn:Nat->Option (List D->Option D)
 kc:Nat->Option (List Sym->List (Nat×Obj')->Nat->Option XR):=λ_=>none
 mf:Nat->Bool:=λ_=>false
def zau{α:Type}(b:Bool)(x:Option α):Option α:=match b with
 |true=>x
 |false=>none
def z9u(ti:TI)(l:List D):Option Sym:=
 match ti.agg with
 |true=>zau (Nat.ble ti.size l.length) (some (.d (.agg (l.take ti.size))))
 |false=>match l with
  |x::_=>some (.d x)
  | []=>none
def yho(ti:TI)(l:List Sym):Option Sym:=
 match ti.agg with
 |true=>zau (Nat.ble ti.size l.length) (some (zj6 (l.take ti.size)))
 |false=>match l with
  |x::_=>some x
  | []=>none
def ynk(look:Nat->Option Obj')(ti:TI):Sym->Option Sym
 |.d (.ptr l)=>z9u ti l
 |.bp id off=>match look id with
  |some (.box _ cells)=>yho ti (cells.drop off)
  |_=>none
 |.ap id sz i off=>match look id with
  |some (.arr _ sz' rows)=>zau (Nat.beq sz sz'&&Nat.blt i rows.length) (z9u ti ((rows.getD i []).drop off))
  |_=>none
 |_=>none
def zp8(kd:TK)(x:Sym)(f:Nat):Option Sym:=
 match kd with
 |.struct fs=>match fs[f]?,x with
  |some (off,sz,_),.d (.ptr l)=>zau (!Nat.beq sz 0) (some (.d (.ptr (l.drop off))))
  |some (off,sz,_),.bp id o=>zau (!Nat.beq sz 0) (some (.bp id (o+off)))
  |some (off,sz,_),.ap id s i o=>zau (!Nat.beq sz 0) (some (.ap id s i (o+off)))
  |_,_=>none
 |_=>none
def yhp(kd:TK)(x:Sym)(f:Nat):Option Sym:=
 match kd with
 |.struct fs=>match fs[f]?,x with
  |some (off,sz,agg),.d (.agg l)=>match agg with
   |true=>zau (Nat.ble (off+sz) l.length) (some (.d (.agg ((l.drop off).take sz))))
   |false=>match l.drop off with
    |x::_=>some (.d x)
    | []=>none
  |some (off,sz,agg),.agg l=>match agg with
   |true=>zau (Nat.ble (off+sz) l.length) (some (zj6 ((l.drop off).take sz)))
   |false=>match l.drop off with
    |x::_=>some x
    | []=>none
  |_,_=>none
 |_=>none
def zp9(look:Nat->Option Obj')(esz:Nat):Sym->Sym->Option Sym
 |.d (.sl l),.d (.int _ n)=>zau (decide (0<=n)&&decide (n<l.length)&&Nat.beq (l.getD n.toNat []).length esz) (some (.d (.ptr (l.getD n.toNat []))))
 |.ar id,.d (.int _ n)=>match look id with
  |some (.arr _ sz rows)=>zau (decide (0<=n)&&decide (n<rows.length)&&Nat.beq sz esz) (some (.ap id sz n.toNat 0))
  |_=>none
 |_,_=>none
def yhq:Sym->Sym->Option Sym
 |.d (.str s),.d (.int _ n)=>zau (decide (0<=n)&&decide (n<s.size)) (some (.d (.int .u8 (byteAt s n))))
 |_,_=>none
def zu0(kd:IntKind)(n:Int):Option Sym:=
 match kd with
 |.i64=>zau (decide (-9223372036854775808<=n)&&decide (n<=9223372036854775807)) (some (.d (.int .i64 n)))
 |kd=>some (.d (.int kd (kd.wrap n)))
def z6r(kd:IntKind)(a b:Int):BinOp->Option Sym
 |.add=>zu0 kd (a+b)
 |.sub=>zu0 kd (a-b)
 |.mul=>zu0 kd (a*b)
 |.quo=>zau (!decide (b=0)) (zu0 kd (a.tdiv b))
 |.rem=>zau (!decide (b=0)) (some (.d (.int kd (a.tmod b))))
 |.and=>some (.d (.int kd (zjn .and kd a b)))
 |.or=>some (.d (.int kd (zjn .or kd a b)))
 |.xor=>some (.d (.int kd (zjn .xor kd a b)))
 |.andNot=>some (.d (.int kd (zjn .andNot kd a b)))
 |.eql=>some (.d (.bool (decide (a=b))))
 |.neq=>some (.d (.bool (!decide (a=b))))
 |.lss=>some (.d (.bool (decide (a<b))))
 |.leq=>some (.d (.bool (decide (a<=b))))
 |.gtr=>some (.d (.bool (decide (b<a))))
 |.geq=>some (.d (.bool (decide (b<=a))))
 |_=>none
def bl(a:ByteArray):List UInt8:=a.data.toList
def z6s(a b:ByteArray):BinOp->Option Sym
 |.add=>zau (Nat.ble (a.size+b.size) 9223372036854775807) (some (.d (.str (a++b))))
 |.eql=>some (.d (.bool (bl a==bl b)))
 |.neq=>some (.d (.bool !(bl a==bl b)))
 |.lss=>some (.d (.bool (Op.bytesLess (bl a) (bl b))))
 |.leq=>some (.d (.bool (Op.bytesLess (bl a) (bl b) ||bl a==bl b)))
 |.gtr=>some (.d (.bool (!(Op.bytesLess (bl a) (bl b) ||bl a==bl b))))
 |.geq=>some (.d (.bool (!Op.bytesLess (bl a) (bl b))))
 |_=>none
def zzc(a b:Bool):BinOp->Option Sym
 |.eql=>some (.d (.bool (a==b)))
 |.neq=>some (.d (.bool (!(a==b))))
 |_=>none
def xbin(op:BinOp):Sym->Sym->Option Sym
 |.d (.int ka a),.d (.int kb b)=>match op with
  |.shl=>zau (decide (0<=b)) (some (.d (.int ka (zlx .shl ka a b))))
  |.shr=>zau (decide (0<=b)) (some (.d (.int ka (zlx .shr ka a b))))
  |op=>zau (decide (ka=kb)) (z6r ka a b op)
 |.d (.str a),.d (.str b)=>z6s a b op
 |.d (.bool a),.d (.bool b)=>zzc a b op
 |.d (.sl (_::_)),.nils=>match op with
  |.eql=>some (.d (.bool false))
  |.neq=>some (.d (.bool true))
  |_=>none
 |.nils,.nils=>match op with
  |.eql=>some (.d (.bool true))
  |.neq=>some (.d (.bool false))
  |_=>none
 |_,_=>none
def z6t(Γ:XG)(op:BinOp)(t:Nat):Sym->Sym->Option Sym
 |.d (.agg a),.d (.agg b)=>match Γ.ek t with
  |some ks=>match zb3 ks a b with
   |some r=>match op with
    |.eql=>some (.d (.bool r))
    |.neq=>some (.d (.bool (!r)))
    |_=>none
   |none=>none
  |none=>none
 |_,_=>none
def xun(op:UnOp):Sym->Option Sym
 |.d (.bool b)=>match op with
  |.not=>some (.d (.bool !b))
  |_=>none
 |.d (.int kd n)=>match op with
  |.neg=>zu0 kd (0-n)
  |_=>none
 |_=>none
def zzd:TK->Sym->Option Sym
 |.int kd,.d (.int _ n)=>some (.d (.int kd (kd.wrap n)))
 |.str,.d (.str s)=>some (.d (.str s))
 |_,_=>none
def zze:Sym->Nat->Option Sym
 |.d (.tup l),i=>match l[i]? with
  |some x=>some (.d x)
  |none=>none
 |.tup l,i=>l[i]?
 |_,_=>none
def xlen(look:Nat->Option Obj'):TK->Sym->Option Sym
 |.slice _,.d (.sl l)=>some (.d (.int .i64 l.length))
 |.str,.d (.str s)=>some (.d (.int .i64 s.size))
 |.slice _,.nils=>some (.d (.int .i64 0))
 |.slice _,.ar id=>match look id with
  |some (.arr _ _ rows)=>some (.d (.int .i64 rows.length))
  |_=>none
 |.slice _,.aS _ _ _ n=>some (.d (.int .i64 n))
 |_,_=>none
def yhr(Γ:XG)(look:Nat->Option Obj'):TK->Sym->Option Sym->Option Sym->Option Sym
 |.slice e,.d (.sl l),lo,hi=>match Γ.ti e,bnd 0 lo,bnd l.length hi with
  |some te,some o,some h=>zau (decide (0<=o)&&decide (o<=h)&&decide (h<=l.length)&&l.all (λr=>Nat.beq r.length te.size)) (some (.d (.sl ((l.take h.toNat).drop o.toNat))))
  |_,_,_=>none
 |.slice e,.ar id,lo,hi=>match look id,Γ.ti e with
  |some (.arr _ sz rows),some te=>match bnd 0 lo,bnd rows.length hi with
   |some o,some h=>zau (decide (0<=o)&&decide (o<=h)&&decide (h<=rows.length)&&Nat.beq sz te.size) (some (match decide (o=h) with |true=>.d (.sl []) |false=>.aS id sz o.toNat (h.toNat-o.toNat)))
   |_,_=>none
  |_,_=>none
 |.str,.d (.str s),lo,hi=>match bnd 0 lo,bnd s.size hi with
  |some o,some h=>zau (decide (0<=o)&&decide (o<=h)&&decide (h<=s.size)) (some (.d (.str (s.extract o.toNat h.toNat))))
  |_,_=>none
 |_,_,_,_=>none
def xnil:Sym->Option Sym
 |.d (.ptr l)=>some (.d (.ptr l))
 |.bp id off=>some (.bp id off)
 |.ap id s i off=>some (.ap id s i off)
 |.fn f l=>some (.fn f l)
 |.d (.fn f l)=>some (.d (.fn f l))
 |_=>none
def ynl(ti:TI):Option Sym:=
 match ti.agg with
 |true=>zau (ti.zero.all (·.oneCell')) (some (zj6 (ti.zero.map ofConst)))
 |false=>match ti.zero with
  | [v]=>some (ofConst v)
  |_=>none
def z6u(look:Nat->Option Obj')(kk:TK)(te:TI)(commaOk:Bool)(m x:Sym):Option Sym:=
 match zj8 look m,x with
 |some rows,.d x=>zau (zes kk x) (match zro x rows with
  |some (some v)=>some (match commaOk with |true=>.d (.tup [v,.bool true]) |false=>.d v)
  |some none=>match ynl te with
   |some z=>some (match commaOk with |true=>.tup [z,.d (.bool false)] |false=>z)
   |none=>none
  |none=>none)
 |_,_=>none
def yhs(ti:TI)(parts:List (Nat×Sym)):Option Sym:=
 match ti.kind with
 |.struct fs=>zau (ti.zero.all (·.oneCell')) (match z5t fs (ti.zero.map ofConst) parts with
  |some out=>some (ztz out)
  |none=>none)
 |_=>none
def xop(Γ:XG)(look:Nat->Option Obj')(ρ:Operand->Sym)(op:Op):Option Sym:=
 match op with
 |.move x=>some (ρ x)
 |.assign x=>some (ρ x)
 |.pick c a b=>match ρ c with
  |.d (.bool true)=>some (ρ a)
  |.d (.bool false)=>some (ρ b)
  |_=>none
 |.load t x=>match Γ.ti t with
  |some ti=>ynk look ti (ρ x)
  |none=>none
 |.fieldAddr t x f=>match Γ.ti t with
  |some ti=>zp8 ti.kind (ρ x) f
  |none=>none
 |.field t x f=>match Γ.ti t with
  |some ti=>yhp ti.kind (ρ x) f
  |none=>none
 |.indexAddr t x i=>match Γ.ti t with
  |some ⟨.slice e,_,_,_,_⟩=>match Γ.ti e with
   |some te=>zp9 look te.size (ρ x) (ρ i)
   |none=>none
  |_=>none
 |.index t x i=>match Γ.ti t with
  |some ⟨.str,_,_,_,_⟩=>yhq (ρ x) (ρ i)
  |_=>none
 |.slice t x lo hi none=>match Γ.ti t with
  |some ti=>yhr Γ look ti.kind (ρ x) (lo.map ρ) (hi.map ρ)
  |none=>none
 |.binOp op t x y _=>match Γ.ti t with
  |some ti=>match ρ x,ρ y with
   |.d (.agg a),.d (.agg b)=>z6t Γ op t (.d (.agg a)) (.d (.agg b))
   |a,b=>zau (zmo ti.kind a) (xbin op a b)
  |none=>none
 |.unOp op _ x=>xun op (ρ x)
 |.convert s t x=>match Γ.ti s,Γ.ti t with
  |some _,some ti=>zzd ti.kind (ρ x)
  |_,_=>none
 |.extract t i=>zze (ρ t) i
 |.lookup t m x c=>match Γ.ti t with
  |some ⟨.map kt et,_,_,_,_⟩=>match Γ.ti kt,Γ.ti et with
   |some tk,some te=>zau (Γ.zf et) (z6u look tk.kind te c (ρ m) (ρ x))
   |_,_=>none
  |_=>none
 |.nilCheck x=>xnil (ρ x)
 |.call {callee:=.builtin .len,args:=a,argTypes:=ts}=>match a.toList,ts.toList with
  | [x],[t]=>match Γ.ti t with
   |some ti=>xlen look ti.kind (ρ x)
   |none=>none
  |_,_=>none
 |.call {callee:=.builtin .max,args:=a,argTypes:=_}=>match a.toList.map ρ with
  | [.d (.int ka a),.d (.int _ b)]=>some (.d (.int ka (match decide (b>a) with |true=>b |false=>a)))
  |_=>none
 |.call {callee:=.builtin .min,args:=a,argTypes:=_}=>match a.toList.map ρ with
  | [.d (.int ka a),.d (.int _ b)]=>some (.d (.int ka (match decide (b<a) with |true=>b |false=>a)))
  |_=>none
 |.build t parts=>match Γ.ti t with
  |some ti=>yhs ti (parts.toList.map λ(i,x)=>(i,ρ x))
  |none=>none
 |.buildSlice t n parts=>match Γ.ti t with
  |some ⟨.slice e,_,_,_,_⟩=>match Γ.ti e,inOrder 0 (parts.toList.map λ(i,x)=>(i,ρ x)) with
   |some te,some xs=>match rowsOf te.size xs with
    |some rows=>zau (Nat.beq xs.length n&&Nat.blt 0 te.size&&Nat.ble (n*te.size) 16777216) (some (.d (.sl rows)))
    |none=>none
   |_,_=>none
  |_=>none
 |.makeFunc (.func f) first captured=>match first.toList with
  | []=>some (.fn f (captured.toList.map ρ))
  |_=>none
 |_=>none
abbrev Caller:=Nat->List Sym->List (Nat×Obj')->Nat->Option XR
mutual
def zot:Sym->List Nat->List Nat
 |.bp i _,l=>zkt i l
 |.ar i,l=>zkt i l
 |.ap i _ _ _,l=>zkt i l
 |.aS i _ _ _,l=>zkt i l
 |.av i _ _ _,l=>zkt i l
 |.yd i,l=>zkt i l
 |.mp i,l=>zkt i l
 |.tup s,l=>ze0 s l
 |.agg s,l=>ze0 s l
 |.fn _ s,l=>ze0 s l
 |_,l=>l
def ze0:List Sym->List Nat->List Nat
 | [],l=>l
 |s::r,l=>ze0 r (zot s l)
end
def reach(look:Nat->Option Obj'):Nat->List Nat->List Nat->List Nat
 |0,_,acc=>acc
 |_+1,[],acc=>acc
 |k+1,i::r,acc=>match look i with
  |some (.box _ cells)=>
   let acc':=ze0 cells acc
   reach look k (r++acc'.drop acc.length) acc'
  |some (.raw _ cells)=>
   let acc':=ze0 cells acc
   reach look k (r++acc'.drop acc.length) acc'
  |_=>reach look k r acc
mutual
def yo2:Sym->List Nat
 |.ar i=>[i]
 |.agg l=>z6v l
 |_=>[]
def z6v:List Sym->List Nat
 | []=>[]
 |s::r=>yo2 s++z6v r
end
mutual
def yo3:Sym->List Nat->List Nat
 |.bp i _,l=>zkt i l
 |.ap i _ _ _,l=>zkt i l
 |.aS i _ _ _,l=>zkt i l
 |.av i _ _ _,l=>zkt i l
 |.yd i,l=>zkt i l
 |.mp i,l=>zkt i l
 |.tup s,l=>zku s l
 |.agg s,l=>zku s l
 |.fn _ s,l=>ze0 s l
 |_,l=>l
def zku:List Sym->List Nat->List Nat
 | [],l=>l
 |s::r,l=>zku r (yo3 s l)
end
def zcf(ids:List Nat)(i:Nat):Nat:=match ids with
 | []=>i
 |j::r=>match Nat.beq i j with
  |true=>0
  |false=>Nat.succ (zcf r i)
mutual
def innB(ids:List Nat):Sym->Bool
 |.bp i _=>ids.any (Nat.beq i)
 |.ar i=>ids.any (Nat.beq i)
 |.ap i _ _ _=>ids.any (Nat.beq i)
 |.aS i _ _ _=>ids.any (Nat.beq i)
 |.av i _ _ _=>ids.any (Nat.beq i)
 |.yd i=>ids.any (Nat.beq i)
 |.mp i=>ids.any (Nat.beq i)
 |.tup l=>zm1 ids l
 |.agg l=>zm1 ids l
 |.fn _ l=>zm1 ids l
 |_=>true
def zm1(ids:List Nat):List Sym->Bool
 | []=>true
 |s::r=>innB ids s&&zm1 ids r
end
def innO(ids:List Nat):Obj'->Bool
 |.box _ cells=>zm1 ids cells
 |.raw _ cells=>zm1 ids cells
 |_=>true
def nodupB:List Nat->Bool
 | []=>true
 |i::r=>!r.any (Nat.beq i)&&nodupB r
def z2x(look:Nat->Option Obj')(ids:List Nat):Nat->List Nat->Option (List (Nat×Obj'))
 |_,[]=>some []
 |k,i::r=>match look i with
  |some o=>match innO ids o with
   |true=>match z2x look ids (k+1) r with
    |some l=>some ((k,zet (zcf ids) o)::l)
    |none=>none
   |false=>none
  |none=>none
def XS.after(xs:XS)(ids:List Nat)(nx:Nat)(own':List (Nat×Obj'))(mv:List Nat):XS:=
 {xs with next:=xs.next+(nx-ids.length),slots:=(match mv with | []=>xs.slots | _=>xs.slots.map (za8 (mv.map (rho' ids xs.next)))),own:=zkj (rho' ids xs.next) own'++zfc ids (mv.map (rho' ids xs.next)) xs.own,moved:=mv.map (rho' ids xs.next)++xs.moved}
def xmut(call:Caller)(xs:XS)(g:Nat)(aS:List Sym)(dst:Option Tmp):Option XS:=
 let roots:=ze0 aS []
 let ids:=reach xs.look 1000 roots roots
 match zau (nodupB ids&&zm1 ids aS) (z2x xs.look ids 0 ids) with
 |some own0=>match call g (rens (zcf ids) aS) own0 ids.length with
  |some r=>some ((xs.after ids r.nx r.own r.mv).put dst (ren (rho' ids xs.next) r.s))
  |none=>none
 |none=>none
def ykm:List Sym->Bool
 | []=>true
 |.bp _ _::_=>false
 |.ap _ _ _ _::_=>false
 |.aS _ _ _ _::_=>false
 |.yd _::_=>false
 |.mp _::_=>false
 |.tup l::r=>(zku l []).isEmpty&&ykm r
 |.agg l::r=>(zku l []).isEmpty&&ykm r
 |_::r=>ykm r
def orElse'{α:Type}(x y:Option α):Option α:=match x with
 |some r=>some r
 |none=>y
def z6w(call:Caller)(xs:XS)(g:Nat)(aS:List Sym)(dst:Option Tmp):Option XS:=
 match (zku aS []).isEmpty with
 |true=>match zjm xs.look aS with
  |some (ds,_)=>match call g (ds.map .d) [] 0 with
   |some ⟨.d r,_,_,_⟩=>zau r.scalar (some (xs.put dst (.d r)))
   |_=>none
  |none=>none
 |false=>none
def zu1(call:Caller)(xs:XS)(f:Operand)(args:List Operand)(dst:Option Tmp)(L:List Nat):Option XS:=
 match zbm ((xs.frzs L).val f) with
 |some (g',caps')=>xmut call (xs.frzs L) g' (args.map (xs.frzs L).val++caps') dst
 |none=>none
def z6x(Γ:XG)(call:Caller)(xs:XS)(f:Operand)(args:List Operand)(dst:Option Tmp):Option XS:=
 match zbm (xs.val f) with
 |some (g,caps)=>
  let aS:=args.map xs.val++caps
  match z6v aS with
  | []=>xmut call xs g aS dst
  |ars=>
   let pr:=reach xs.look 1000 (zku aS []) (zku aS [])
   let L:=ars.filter λi=>!pr.any (Nat.beq i)
   match Γ.sc g&&ykm aS with
   |true=>orElse' (z6w call xs g aS dst) (orElse' (xmut call xs g aS dst) (zu1 call xs f args dst L))
   |false=>match Γ.mf g with
    |true=>orElse' (xmut call xs g aS dst) (zu1 call xs f args dst L)
    |false=>orElse' (zu1 call xs f args dst L) (xmut call xs g aS dst)
 |none=>none
def xsrc(look:Nat->Option Obj')(id:Nat):Sym->Option (List (List D))
 |.d (.sl l)=>some l
 |.nils=>some []
 |.ar j=>match Nat.beq j id with
  |true=>none
  |false=>match look j with
   |some (.arr _ _ rows)=>some rows
   |_=>none
 |.aS j sz lo n=>match Nat.beq j id with
  |true=>none
  |false=>match look j with
   |some (.arr _ sz' rows)=>zau (Nat.beq sz sz'&&Nat.ble (lo+n) rows.length) (some ((rows.drop lo).take n))
   |_=>none
 |_=>none
def xdst(dst:Option Tmp)(n:Nat):Bool:=match dst with
 |some t=>Nat.blt t n&&Nat.blt t 4095
 |none=>true
def zzf(Γ:XG)(call:Caller)(o:Oper)(xs:XS):Option XS:=
 zau (xdst o.dst xs.n) <|
 match o.op with
 |.box T x=>match zbg (xs.val x) with
  |some l=>some ((xs.new (.box T l)).put o.dst (.bp xs.next 0))
  |none=>none
 |.alloc T=>match Γ.ti T with
  |some ti=>zau (ti.zero.all (·.oneCell')) (some ((xs.new (.box T (ti.zero.map ofConst))).put o.dst (.bp xs.next 0)))
  |none=>none
 |.assign (.const (.slice none 0 0))=>match Γ.ti o.type with
  |some ⟨.slice e,_,_,_,_⟩=>match Γ.ti e with
   |some te=>some ((xs.new (.arr e te.size [])).put o.dst (.ar xs.next))
   |none=>none
  |_=>none
 |.buildSlice t n parts=>match Γ.ti t with
  |some ⟨.slice e,_,_,_,_⟩=>match Γ.ti e with
   |some te=>match inOrder 0 parts.toList with
    |some l=>
     let xs':=xs.frzs (zf2 (l.map xs.val))
     match rowsOf te.size (l.map xs'.val) with
     |some rows=>zau (Nat.beq l.length n&&Nat.blt 0 te.size&&Nat.ble (n*te.size) 16777216) (some ((xs'.new (.arr e te.size rows)).put o.dst (.ar xs'.next)))
     |none=>none
    |none=>none
   |none=>none
  |_=>none
 |.store t ad x=>match o.dst,Γ.ti t with
  |none,some ti=>match xs.val ad with
   |.bp id off=>match xs.look id with
    |some (.box T cells)=>match zbg (xs.val x) with
     |some l=>zau (Nat.beq l.length ti.size&&Nat.ble (off+l.length) cells.length) (some (xs.set id (.box T (splice cells off l))))
     |none=>none
    |_=>none
   |.ap id sz i off=>match xs.look id with
    |some (.arr T sz' rows)=>match zbg (xs.val x) with
     |some l=>match allD l with
      |some ds=>zau (Nat.beq sz sz'&&Nat.blt i rows.length&&Nat.beq ds.length ti.size&&Nat.ble (off+ds.length) (rows.getD i []).length) (some (xs.set id (.arr T sz (rows.set i (splice (rows.getD i []) off ds)))))
      |none=>none
     |none=>none
    |_=>none
   |_=>none
  |_,_=>none
 |.makeSlice t l c=>match Γ.ti t,xs.val l,xs.val c with
  |some ⟨.slice e,_,_,_,_⟩,.d (.int _ l),.d (.int _ c)=>match Γ.ti e with
   |some te=>match allD (te.zero.map ofConst) with
    |some x=>zau (Nat.blt 0 te.size&&Nat.beq te.zero.length te.size&&te.zero.all (·.oneCell')&&decide (0<=l)&&decide (l<=c)&&decide ((te.bytes:Int)*c<=281474976710656)&&decide (c<=(maxLen:Int))) (some ((xs.new (.arr e te.size (List.replicate l.toNat x))).put o.dst (.ar xs.next)))
    |none=>none
   |none=>none
  |_,_,_=>none
 |.makeMap t none=>some ((xs.new (.map t [])).put o.dst (.mp xs.next))
 |.mapUpdate t m x v=>match o.dst,xs.val m,xs.val x,unD (xs.val v),Γ.ti t with
  |none,.mp id,.d x,some v,some ⟨.map kt _,_,_,_,_⟩=>match xs.look id,Γ.ti kt with
   |some (.map T rows),some tk=>match putD x v rows with
    |some rows'=>zau (zes tk.kind x) (some (xs.set id (.map T rows')))
    |none=>none
   |_,_=>none
  |_,_,_,_,_=>none
 |.call {callee:=.builtin .append,args:=xs',argTypes:=ts}=>match xs'.toList,ts.toList with
  | [s,x],[t,t']=>match Γ.ti t with
   |some ⟨.slice e,_,_,_,_⟩=>match Γ.ti e with
    |some te=>match xs.val s with
     |.ar id=>match xs.look id,xsrc xs.look id (xs.val x) with
      |some (.arr T sz rows),some l=>zau (Nat.beq t' t&&Nat.blt 0 te.size&&Nat.beq te.zero.length te.size&&te.zero.all (·.oneCell')&&Nat.beq T e&&Nat.beq sz te.size&&l.all (λr=>Nat.beq r.length te.size)&&Nat.ble ((rows.length+l.length)*te.bytes) 140737488355328&&Nat.ble (rows.length+l.length) maxLen)
        (some ((xs.renew id (.arr e te.size (rows++l))).put o.dst (.ar id)))
      |_,_=>none
     |.nils=>match xsrc (xs.new (.arr e te.size [])).look xs.next (xs.val x) with
      |some l=>zau (Nat.beq t' t&&Nat.blt 0 te.size&&Nat.beq te.zero.length te.size&&te.zero.all (·.oneCell')&&l.all (λr=>Nat.beq r.length te.size)&&Nat.ble (l.length*te.bytes) 140737488355328&&Nat.ble l.length maxLen)
        (some (((xs.new (.arr e te.size [])).renew xs.next (.arr e te.size l)).put o.dst (.ar xs.next)))
      |none=>none
     |_=>none
    |none=>none
   |_=>none
  |_,_=>none
 |.call {callee:=.builtin .copy,args:=xs',argTypes:=ts}=>match xs'.toList,ts.toList with
  | [d,s],[t,_]=>match Γ.ti t with
   |some ⟨.slice e,_,_,_,_⟩=>match Γ.ti e,xsrc xs.look xs.next (xs.val s) with
    |some te,some l=>zau (Nat.blt 0 te.size&&l.all (λr=>Nat.beq r.length te.size)) (match xs.val d with
     |.d (.sl [])=>some (xs.put o.dst (.d (.int .i64 0)))
     |.aS id sz lo n=>match xs.look id with
      |some (.arr T sz' rows)=>zau (Nat.beq sz te.size&&Nat.beq sz' te.size&&Nat.ble (lo+n) rows.length) (some ((xs.set id (.arr T sz' (splice rows lo (l.take n)))).put o.dst (.d (.int .i64 ((l.take n).length:Nat)))))
      |_=>none
     |.ar id=>match xs.look id with
      |some (.arr T sz' rows)=>zau (Nat.beq sz' te.size) (some ((xs.set id (.arr T sz' (splice rows 0 (l.take rows.length)))).put o.dst (.d (.int .i64 ((l.take rows.length).length:Nat)))))
      |_=>none
     |_=>none)
    |_,_=>none
   |_=>none
  |_,_=>none
 |.call {callee:=.builtin .clear,args:=xs',argTypes:=ts}=>match xs'.toList,ts.toList with
  | [x],[t]=>match Γ.ti t with
   |some ⟨.slice e,_,_,_,_⟩=>match Γ.ti e with
    |some te=>match allD (te.zero.map ofConst) with
     |some z=>zau (te.zero.all (·.oneCell')&&Nat.beq te.zero.length te.size) (match xs.val x with
      |.d (.sl [])=>some (xs.put o.dst (.d (.tup [])))
      |.aS id sz lo n=>match xs.look id with
       |some (.arr T sz' rows)=>zau (Nat.beq sz te.size&&Nat.beq sz' te.size&&Nat.ble (lo+n) rows.length) (some ((xs.set id (.arr T sz' (splice rows lo (List.replicate n z)))).put o.dst (.d (.tup []))))
       |_=>none
      |_=>none)
     |none=>none
    |none=>none
   |_=>none
  |_,_=>none
 |.range t x=>match Γ.ti t,xs.val x with
  |some ⟨.str,_,_,_,_⟩,.d (.str s)=>some ((xs.new (.raw (.it s 0) [])).put o.dst (.bp xs.next 0))
  |_,_=>none
 |.next x true=>match xs.val x with
  |.bp id 0=>match xs.look id with
   |some (.raw (.it s pos) [])=>match z9d s pos with
    |(pos',y)=>some ((xs.set id (.raw (.it s pos') [])).put o.dst (.d y))
   |_=>none
  |_=>none
 |.convert s t x=>match xop Γ xs.look xs.val (.convert s t x) with
  |some y=>some (xs.put o.dst y)
  |none=>match Γ.ti s,Γ.ti t with
   |some ⟨.slice e,_,_,_,_⟩,some ⟨.str,_,_,_,_⟩=>match Γ.ti e,xsrc xs.look xs.next (xs.val x) with
    |some ⟨.int .u8,_,_,_,_⟩,some rows=>match bytesOf rows with
     |some bs=>some (xs.put o.dst (.d (.str ⟨bs.toArray⟩)))
     |none=>none
    |_,_=>none
   |some ⟨.str,_,_,_,_⟩,some ⟨.slice e,_,_,_,_⟩=>match Γ.ti e,xs.val x with
    |some ⟨.int .u8,_,_,_,_⟩,.d (.str b)=>zau (Nat.ble b.size maxLen) (some (xs.put o.dst (.d (.sl (za5 b)))))
    |_,_=>none
   |_,_=>none
 |.call {callee:=.value f,args:=xs',argTypes:=_}=>z6x Γ call xs f xs'.toList o.dst
 |op=>match xop Γ xs.look xs.val op with
  |some s=>some (xs.put o.dst s)
  |none=>none
abbrev Runner:=Code->XS->Option (DE×XS)
def z9v:List Nat->List Sym->Tr->Tr
 |p::ps,s::ss,t=>z9v ps ss (t.put dep p s)
 |_,_,t=>t
def zvq:Nat->List Sym->Tr->Tr
 |_,[],t=>t
 |k,s::r,t=>zvq (k+1) r (t.put dep k s)
def z2y(n:Nat)(ids:List Nat)(x:Nat×Obj'):Bool:=Nat.blt x.1 n || ids.any (Nat.beq x.1)
def zdc:DE->Option Code
 |.normal=>none
 |.ret=>some .ret
 |.exit i=>some (.exit i)
def zgw:DE->LoopState
 |.normal=>.ready
 |_=>.done
def zga:DE->Bool
 |.normal=>true
 |_=>false
def z2z(run:Runner)(id:Nat)(args:List Sym)(own:List (Nat×Obj'))(n:Nat):Option XR:=
 match zlp own id with
 |some (.raw (.lp ps a b .ready none) cells)=>match zau (Nat.beq args.length ps.size&&ps.toList.all (λp=>Nat.blt p cells.length)&&Nat.blt cells.length 4000)
   (run a ⟨cells.length,n,z9v ps.toList args (zvq 0 cells .leaf),own,n,[]⟩) with
  |some (.normal,xs1)=>match zau (Nat.beq xs1.base n && !xs1.moved.any (Nat.beq id)&&Nat.blt id n) (xs1.look id) with
   |some (.raw (.lp ps1 a1 b1 .ready none) cells1)=>match run b (xs1.set id (.raw (.lp ps1 a1 b1 .busy none) cells1)) with
    |some (de,xs2)=>match xs2.look id with
     |some (.raw (.lp ps2 a2 b2 .busy none) cells2)=>zau (Nat.beq xs2.base n && !xs2.moved.any (Nat.beq id))
      (some ⟨.d (.bool (zga de)),xs2.next,(xs2.set id (.raw (.lp ps2 a2 b2 (zgw de) (zdc de)) cells2)).own.filter (z2y n (reach xs2.look 1000 (List.range n) [])),xs2.moved⟩)
     |_=>none
    |none=>none
   |_=>none
  |_=>none
 |_=>none
def z9w(run:Runner)(xs:XS)(id:Nat)(aS:List Sym)(dst:Option Tmp):Option XS:=
 let roots:=ze0 (.yd id::aS) []
 let ids:=reach xs.look 1000 roots roots
 match zau (nodupB ids&&zm1 ids (.yd id::aS)) (z2x xs.look ids 0 ids) with
 |some own0=>match z2z run (zcf ids id) (rens (zcf ids) aS) own0 ids.length with
  |some r=>some ((xs.after ids r.nx r.own r.mv).put dst (ren (rho' ids xs.next) r.s))
  |none=>none
 |none=>none
def zw9(Γ:XG)(call:Caller)(run:Runner)(o:Oper)(xs:XS):Option XS:=
 match o.op with
 |.call {callee:=.value f,args:=args,argTypes:=ts}=>match xs.val f with
  |.yd id=>zau (xdst o.dst xs.n) (z9w run xs id (args.toList.map xs.val) o.dst)
  |_=>zzf Γ call o xs
 |_=>zzf Γ call o xs
def xops(Γ:XG)(call:Caller)(run:Runner)(all:List Oper):List Oper->XS->Option XS
 | [],xs=>some xs
 |o::r,xs=>match o.guard with
  |none=>match zw9 Γ call run o xs with
   |some xs'=>xops Γ call run all r xs'
   |none=>none
  |some (j,want)=>match (all[j]?).bind (·.dst) with
   |some t=>match xs.get t with
    |some (.d (.bool b))=>match b==want with
     |true=>match zw9 Γ call run o xs with
      |some xs'=>xops Γ call run all r xs'
      |none=>none
     |false=>zau (xdst o.dst xs.n) (xops Γ call run all r (xs.put o.dst (.d (.val undef))))
    |some (.d (.val (.tuple ⟨[]⟩)))=>zau (xdst o.dst xs.n) (xops Γ call run all r (xs.put o.dst (.d (.val undef))))
    |_=>none
   |none=>none
def zgx(id:Nat):Option (DE×XS)->Option (DE×XS)
 |some (.exit j,xs)=>match Nat.beq j id with
  |true=>some (.normal,xs)
  |false=>some (.exit j,xs)
 |r=>r
def yht(f:XS->Option (DE×XS)):Nat->XS->Option (DE×XS)
 |0,_=>none
 |k+1,xs=>match f xs with
  |some (.normal,xs')=>yht f k xs'
  |r=>r
def ze1(xs:XS):Nat->Nat->List Sym
 |0,_=>[]
 |k+1,t=>(match xs.get t with
  |some s=>s
  |none=>.junk)::ze1 xs k (t+1)
def z3a(l:Nat)(xs:XS):Option (DE×XS):=
 match xs.look l with
 |some (.raw (.lp _ _ _ st pend) _)=>match st,pend with
  |.busy,_=>none
  |_,none=>some (.normal,{xs with own:=xs.own.filter λx=>!Nat.beq x.1 l})
  |_,some .ret=>some (.ret,{xs with own:=xs.own.filter λx=>!Nat.beq x.1 l})
  |_,some (.exit i)=>some (.exit i,{xs with own:=xs.own.filter λx=>!Nat.beq x.1 l})
  |_,_=>none
 |_=>none
def yhu(call:Caller)(xs:XS)(g:Operand)(ps:Array Tmp)(a b:Code):Option (DE×XS):=
 match zbm (xs.val g) with
 |some (gf,caps)=>
  let xs1:=xs.new (.raw (.lp ps a b .ready none) (ze1 xs xs.n 0))
  let roots:=ze0 (.yd xs.next::caps) []
  let ids:=reach xs1.look 1000 roots roots
  match zau (nodupB ids&&zm1 ids (.yd xs.next::caps)) (z2x xs1.look ids 0 ids) with
  |some own0=>match call gf (rens (zcf ids) (.yd xs.next::caps)) own0 ids.length with
   |some r=>zau (!r.mv.any (Nat.beq (zcf ids xs.next))) (z3a xs.next (xs1.after ids r.nx r.own r.mv))
   |none=>none
  |none=>none
 |none=>none
def zbo:Code->Bool
 |.rangeFunc _ _ _ _=>true
 |.seq x y=>zbo x ||zbo y
 |.cond _ x y=>zbo x ||zbo y
 |.block _ c=>zbo c
 |.loop c=>zbo c
 |.scope c=>zbo c
 |_=>false
def zek(Γ:XG)(call:Caller)(run:Runner)(draw:List Oper->XS->Option XS):Code->Bool->XS->Option (DE×XS)
 |.skip,_,xs=>some (.normal,xs)
 |.region _ ops d,pl,xs=>match (match d with
   |true=>(match pl with
    |true=>draw ops.toList xs
    |false=>none)
   |false=>xops Γ call run ops.toList ops.toList xs) with
  |some xs'=>some (.normal,xs')
  |none=>none
 |.seq x y,pl,xs=>match zek Γ call run draw x pl xs with
  |some (.normal,xs')=>zek Γ call run draw y (pl && !zbo x) xs'
  |r=>r
 |.cond c x y,pl,xs=>match xs.val c with
  |.d (.bool true)=>zek Γ call run draw x pl xs
  |.d (.bool false)=>zek Γ call run draw y pl xs
  |_=>none
 |.block id c,pl,xs=>zgx id (zek Γ call run draw c pl xs)
 |.exit id,_,xs=>some (.exit id,xs)
 |.ret,_,xs=>some (.ret,xs)
 |.loop c,pl,xs=>yht (zek Γ call run draw c (pl && !zbo c)) 100000 xs
 |.scope c,true,xs=>zek Γ call run draw c true xs
 |.label _,_,xs=>some (.normal,xs)
 |.rangeFunc g ps a b,true,xs=>yhu call xs g ps a b
 |_,_,_=>none
def xres(Γ:XG)(xs:XS):ResultVar->Option Sym
 |.tmp t=>xs.get t
 |.cell ad T=>match xs.get ad,Γ.ti T with
  |some (.bp id off),some ti=>match xs.look id with
   |some (.box _ cells)=>yka ti (cells.drop off)
   |_=>none
  |_,_=>none
def z6y(Γ:XG)(xs:XS):List ResultVar->Option (List Sym)
 | []=>some []
 |v::r=>match xres Γ xs v,z6y Γ xs r with
  |some s,some l=>some (s::l)
  |_,_=>none
mutual
def loB(m:Nat):Sym->Bool
 |.bp i _=>Nat.blt i m
 |.ar i=>Nat.blt i m
 |.ap i _ _ _=>Nat.blt i m
 |.aS i _ _ _=>Nat.blt i m
 |.av i _ _ _=>Nat.blt i m
 |.yd i=>Nat.blt i m
 |.mp i=>Nat.blt i m
 |.tup l=>losB m l
 |.agg l=>losB m l
 |.fn _ l=>losB m l
 |_=>true
def losB(m:Nat):List Sym->Bool
 | []=>true
 |s::r=>loB m s&&losB m r
end
def ylh(Γ:XG)(f:Nat)(args:List Sym):Option D:=match Γ.kn f,allD args with
 |some g,some ds=>g ds
 |_,_=>none
def ykn:DE->Bool
 |.exit _=>false
 |_=>true
mutual
def ypk:Sym->List Nat
 |.aS i _ _ _=>[i]
 |.agg l=>z9x l
 |.tup l=>z9x l
 |_=>[]
def z9x:List Sym->List Nat
 | []=>[]
 |s::r=>ypk s++z9x r
end
def ycl(Γ:XG)(xs:XS)(rs:List ResultVar):List Nat:=match z6y Γ xs rs with
 |some l=>z9x l
 |none=>[]
def xend(Γ:XG)(rs:List ResultVar)(n na:Nat)(de:DE)(xs:XS):Option XR:=match z6y Γ xs rs with
 |some l=>zau (ykn de&&loB xs.next (tupS l)&&Nat.beq xs.base n&&Nat.blt na 4000)
  (some ⟨tupS l,xs.next,xs.own.filter (z2y n (reach xs.look 1000 (zot (tupS l) []++List.range n) (zot (tupS l) []))),xs.moved⟩)
 |none=>none
def xfun(Γ:XG)(call:Caller)(run:Runner)(draw:List Oper->XS->Option XS):Caller:=λf args own n=>match Γ.kc f with
 |some g=>g args own n
 |none=>match ylh Γ f args with
 |some r=>some ⟨.d r,n,own,[]⟩
 |none=>match Γ.fn f with
  |some (ntmps,c,rs)=>match zek Γ call run draw c true ⟨args.length+(ntmps-args.length),n,zvq 0 args .leaf,own,n,[]⟩ with
   |some (de,xs)=>xend Γ rs n args.length de (xs.frzs (ycl Γ xs rs))
   |none=>none
  |none=>none
def xenv(Γ:XG)(draw:Caller->List Oper->XS->Option XS):Nat->Caller×Runner
 |0=>(λ_ _ _ _=>none,λ_ _=>none)
 |k+1=>match xenv Γ draw k with
  |(call,run)=>(xfun Γ call run (draw call),λc xs=>zek Γ call run (draw call) c false xs)
def z3b(Γ:XG)(draw:Caller->List Oper->XS->Option XS)(k:Nat):Caller:=(xenv Γ draw k).1
end Go.V
namespace Go.V
variable [Dr] [Ov]
open Go.RowKit
theorem zaf{α:Type}{b:Bool}{x:Option α}{s:α}:zau b x=some s↔b=true/\x=some s:=by cases b <;> simp[zau]
theorem beq_iff{a b:Nat}:Nat.beq a b=true↔a=b:=by rw[Nat.beq_eq]
theorem zdf{a b:Nat}:Nat.ble a b=true↔a<=b:=by rw[Nat.ble_eq]
theorem zbu{a b:Nat}:Nat.blt a b=true↔a<b:=by rw[Nat.blt_eq]
theorem Tr.zi6:∀ (k t:Nat),Tr.get k .leaf t=none
 |0,_=>rfl
 |_+1,_=>rfl
theorem Tr.get_put:∀ (k:Nat) (x:Tr) (t:Nat) (s:Sym) (u:Nat),t+1<2^k->Tr.get k (Tr.put k x t s) u=if t=u then some s else Tr.get k x u
 |0,x,t,s,u,h=>by omega
 |k+1,x,t,s,u,h=>by
  have F:∀ t',t'+1+1<2^(k+1)->t'/2+1<2^k:=by intro t' E;rw[Nat.pow_succ] at E;omega
  cases x with
  |leaf=>
   cases t with
   |zero=>
    cases u with
    |zero=>simp[Tr.put,Tr.get]
    |succ u=>
     simp only[Tr.put,Tr.get,Tr.zi6];cases Nat.beq (u%2) 0 <;> simp
   |succ t=>
    have ih:=Tr.get_put k .leaf (t/2) s;simp only[Tr.put];cases K:Nat.beq (t%2) 0 with
    |true=>
     have G:=beq_iff.1 K;cases u with
     |zero=>simp[Tr.get]
     |succ u=>
      simp only[Tr.get];cases J:Nat.beq (u%2) 0 with
      |true=>
       have H:=beq_iff.1 J;simp only[ih (u/2) (F t h),Tr.zi6];by_cases e:t=u
       .subst e;simp
       .have:¬t/2=u/2:=by omega
        simp[e,this]
      |false=>
       have H:u%2≠0:=λe=>by rw[beq_iff.2 e] at J;cases J
       have:¬t=u:=λe=>H (e▸G)
       simp[this,Tr.zi6]
    |false=>
     have G:t%2≠0:=λe=>by rw[beq_iff.2 e] at K;cases K
     cases u with
     |zero=>simp[Tr.get]
     |succ u=>
      simp only[Tr.get];cases J:Nat.beq (u%2) 0 with
      |false=>
       have H:u%2≠0:=λe=>by rw[beq_iff.2 e] at J;cases J
       simp only[ih (u/2) (F t h),Tr.zi6];by_cases e:t=u
       .subst e;simp
       .have:¬t/2=u/2:=by omega
        simp[e,this]
      |true=>
       have H:=beq_iff.1 J;have:¬t=u:=λe=>G (e▸H)
       simp[this,Tr.zi6]
  |node v l r=>
   cases t with
   |zero=>
    cases u with
    |zero=>simp[Tr.put,Tr.get]
    |succ u=>simp[Tr.put,Tr.get]
   |succ t=>
    simp only[Tr.put];cases K:Nat.beq (t%2) 0 with
    |true=>
     have ih:=Tr.get_put k l (t/2) s;have G:=beq_iff.1 K;cases u with
     |zero=>simp[Tr.get]
     |succ u=>
      simp only[Tr.get];cases J:Nat.beq (u%2) 0 with
      |true=>
       have H:=beq_iff.1 J;simp only[ih (u/2) (F t h)];by_cases e:t=u
       .subst e;simp
       .have:¬t/2=u/2:=by omega
        simp[e,this]
      |false=>
       have H:u%2≠0:=λe=>by rw[beq_iff.2 e] at J;cases J
       have:¬t=u:=λe=>H (e▸G)
       simp[this]
    |false=>
     have ih:=Tr.get_put k r (t/2) s;have G:t%2≠0:=λe=>by rw[beq_iff.2 e] at K;cases K
     cases u with
     |zero=>simp[Tr.get]
     |succ u=>
      simp only[Tr.get];cases J:Nat.beq (u%2) 0 with
      |false=>
       have H:u%2≠0:=λe=>by rw[beq_iff.2 e] at J;cases J
       simp only[ih (u/2) (F t h)];by_cases e:t=u
       .subst e;simp
       .have:¬t/2=u/2:=by omega
        simp[e,this]
      |true=>
       have H:=beq_iff.1 J;have:¬t=u:=λe=>G (e▸H)
       simp[this]
theorem Tr.get_map(f:Sym->Sym):∀ (k:Nat) (x:Tr) (t:Nat),Tr.get k (Tr.map f x) t=(Tr.get k x t).map f
 |0,x,t=>rfl
 |k+1,.leaf,t=>rfl
 |k+1,.node v l r,0=>rfl
 |k+1,.node v l r,u+1=>by
  simp only[Tr.map,Tr.get];cases Nat.beq (u%2) 0
  .exact Tr.get_map f k r _
  .exact Tr.get_map f k l _
theorem zhb{α:Type}:∀ (l:List (Nat×α)) (t:Nat),zlp l t=zac l t
 | [],t=>rfl
 |(k,v)::r,t=>by
  simp only[zlp,zac];cases h:Nat.beq k t with
  |true=>rw[if_pos (beq_iff.1 h)]
  |false=>rw[if_neg (λe=>by rw[beq_iff.2 e] at h;cases h)];exact zhb r t
theorem z6z:∀ (l:List (Nat×Obj')) (t:Nat) (o:Obj'),xset t o l=aset t o l
 | [],t,o=>rfl
 |(k,v)::r,t,o=>by
  simp only[xset,aset];cases h:Nat.beq k t with
  |true=>rw[if_pos (beq_iff.1 h)]
  |false=>rw[if_neg (λe=>by rw[beq_iff.2 e] at h;cases h)];rw[z6z r t o]
theorem zqa(id:Nat)(x:D):∀ (l:List (Nat×Sym)) (t:Nat),zac (zcp id x l) t=(zac l t).map (thaw id x)
 | [],t=>rfl
 |(k,v)::r,t=>by simp only[zcp,zac];split;rfl;exact zqa id x r t
theorem zu3(id:Nat):∀ (l:List (Nat×Sym)) (t:Nat),zac (zav id l) t=(zac l t).map (za2 id)
 | [],t=>rfl
 |(k,v)::r,t=>by simp only[zav,zac];split;rfl;exact zu3 id r t
theorem zrh(M:List Nat):∀ (l:List (Nat×Sym)) (t:Nat),zac (zc6 M l) t=(zac l t).map (za8 M)
 | [],t=>rfl
 |(k,v)::r,t=>by simp only[zc6,zac];split;rfl;exact zrh M r t
mutual
theorem zxa:∀ (s:Sym),za8 [] s=s
 |.ar i=>by simp[za8]
 |.ap i s j o=>by simp[za8]
 |.aS i s j o=>by simp[za8]
 |.av i s j o=>by simp[za8]
 |.yd i=>by simp[za8]
 |.bp i o=>by simp[za8]
 |.mp i=>by simp[za8]
 |.agg l=>by simp[za8,zi7 l]
 |.tup l=>by simp[za8,zi7 l]
 |.fn f l=>by simp[za8,zi7 l]
 |.d x=>by simp[za8]
 |.nils=>by simp[za8]
 |.junk=>by simp[za8]
theorem zi7:∀ (l:List Sym),zc3 [] l=l
 | []=>by simp[zc3]
 |s::r=>by simp[zc3,zxa s,zi7 r]
end
theorem any_beq{i:Nat}{l:List Nat}:l.any (Nat.beq i)=true↔i∈l:=by
 rw[List.any_eq_true]
 constructor
 .rintro⟨x,H,h⟩;rw[beq_iff] at h;subst h;exact H
 .exact λh=>⟨i,h,beq_iff.2 rfl⟩
theorem z3c{i j:Nat}{l:List Nat}:i∈zkt j l↔i=j\/i∈l:=by
 unfold zkt
 split
 .rename_i h;rw[any_beq] at h
  exact⟨.inr,λh'=>h'.elim (λe=>e▸h) id⟩
 .simp[or_comm]
structure Ag(st:St)(xs:XS):Prop where
 n:st.n=xs.n
 next:st.next=xs.next
 own:st.own=xs.own
 base:st.base=xs.base
 moved:∀ id,id<st.base->id∈st.moved->id∈xs.moved
 slots:∀ t,zac st.slots t=xs.get t
section
variable {st:St} {xs:XS}
theorem Ag.val(h:Ag st xs):st.val=xs.val:=by
 funext x
 cases x with
 |tmp t=>
  simp only[St.val,XS.val,h.slots];cases xs.get t <;> rfl
 |_=>rfl
theorem Ag.look(h:Ag st xs):st.look=xs.look:=by
 funext id;simp only[St.look,XS.look,zhb,h.own]
theorem zgy{dst:Option Tmp}{n:Nat}(h:xdst dst n=true):(∀ t,dst=some t->t<n)/\(∀ t,dst=some t->t+1<4096):=by
 constructor <;> intro t e <;> subst e <;> simp only[xdst,Bool.and_eq_true,zbu] at h
 .exact h.1
 .exact Nat.add_lt_add_right h.2 1
theorem Ag.put(h:Ag st xs){dst:Option Tmp}{n:Nat}(H:xdst dst n=true)(s:Sym):Ag (st.put dst s) (xs.put dst s):=by
 cases dst with
 |none=>exact h
 |some t=>
  have G:=(zgy H).2 t rfl;refine⟨h.n,h.next,h.own,h.base,h.moved,λu=>?_⟩
  show(if t=u then some s else zac st.slots u)=Tr.get dep (Tr.put dep xs.slots t s) u
  rw[Tr.get_put dep xs.slots t s u (by simpa[dep] using G),h.slots];rfl
theorem Ag.new(h:Ag st xs)(o:Obj'):Ag (st.new o) (xs.new o):=by
 refine⟨h.n,?_,?_,h.base,h.moved,h.slots⟩
 .simp only[St.new,XS.new,h.next]
 .simp only[St.new,XS.new,h.next,h.own]
theorem Ag.set(h:Ag st xs)(id:Nat)(o:Obj'):Ag {st with own:=aset id o st.own} (xs.set id o):=by
 refine⟨h.n,h.next,?_,h.base,h.moved,h.slots⟩
 simp only[XS.set,z6z,h.own]
theorem Ag.frz(h:Ag st xs)(id:Nat):Ag (st.frz id) (xs.frz id):=by
 unfold St.frz XS.frz
 rw[<-h.look]
 cases H:st.look id with
 |none=>exact h
 |some o=>
  cases o with
  |box T cells=>exact h
  |raw k cells=>exact h
  |arr T sz rows=>
   refine⟨h.n,h.next,by simp only[h.own],h.base,h.moved,λt=>?_⟩
   show zac (zcp id _ st.slots) t=Tr.get dep (Tr.map _ xs.slots) t
   rw[zqa,Tr.get_map,h.slots];rfl
  |map T rows=>
   refine⟨h.n,h.next,by simp only[h.own],h.base,h.moved,λt=>?_⟩
   show zac (zcp id _ st.slots) t=Tr.get dep (Tr.map _ xs.slots) t
   rw[zqa,Tr.get_map,h.slots];rfl
theorem Ag.frzs:∀ {l:List Nat} {st:St} {xs:XS},Ag st xs->Ag (st.frzs l) (xs.frzs l)
 | [],_,_,h=>h
 |id::r,_,_,h=>Ag.frzs (l:=r) (h.frz id)
theorem Ag.renew(h:Ag st xs)(id:Nat)(o:Obj'):Ag (st.renew id o) (xs.renew id o):=by
 refine⟨h.n,h.next,by simp only[St.renew,XS.renew,h.own],h.base,λi hi H=>?_,λt=>?_⟩
 .simp only[St.renew] at hi H
  simp only[XS.renew];have G:=h.base;rcases List.mem_cons.1 H with e | H
  .subst e
   rw[show Nat.blt i xs.base=true from zbu.2 (by omega)]
   exact z3c.2 (.inl rfl)
  .have:=h.moved i hi H
   split
   .exact z3c.2 (.inr this)
   .exact this
 show zac (zav id st.slots) t=Tr.get dep (Tr.map _ xs.slots) t
 rw[zu3,Tr.get_map,h.slots];rfl
theorem Ag.after(h:Ag st xs)(H:st.base<=st.next)(ids:List Nat)(nx:Nat)(own':List (Nat×Obj'))(mv:List Nat):Ag (st.after ids nx own' mv) (xs.after ids nx own' mv):=by
 refine⟨h.n,by simp only[St.after,XS.after,h.next],by simp only[St.after,XS.after,h.own,h.next],h.base,λi hi G=>?_,λt=>?_⟩
 .simp only[St.after] at hi G
  simp only[XS.after];rw[<-h.next];rcases List.mem_append.1 G with G | G
  .exact List.mem_append.2 (.inl G)
  .exact List.mem_append.2 (.inr (h.moved i hi G))
 show zac (zc6 _ st.slots) t=XS.get (xs.after ids nx own' mv) t
 rw[zrh,h.slots,h.next]
 cases mv with
 |nil=>
  show _=xs.get t
  cases xs.get t with
  |none=>rfl
  |some s=>simp[zxa]
 |cons m r=>
  show _=Tr.get dep (Tr.map _ xs.slots) t
  rw[Tr.get_map];rfl
end
structure XGood(P:Program)(Γ:XG):Prop where
 ti:∀ {t ti},Γ.ti t=some ti->TI.of P t=some ti
 zf:∀ {t},Γ.zf t=true->zfit P t=true
 ek:∀ {t ks},Γ.ek t=some ks->eqKinds P t=some ks
 fn:∀ {f n c rs},Γ.fn f=some (n,c,rs)->callable P f=true/\∃ fn,P.funcs[f]?=some fn/\fn.body=some c/\fn.ntmps=n/\fn.results.toList=rs
 kn:∀ {f g ds r},Γ.kn f=some g->g ds=some r->zan P f ds r
 kc:∀ {f g args own n r},Γ.kc f=some g->g args own n=some r->Sym.los n args->zbl P f args own n r.s r.nx r.own r.mv
section
variable {P:Program} {Γ:XG} {look:Nat->Option Obj'} {ρ:Operand->Sym} {k:Sym->Prop} {s:Sym}
theorem zri{ti:TI}{l:List D}(h:z9u ti l=some s)(H:k s):headD ti l k:=by
 unfold z9u at h;unfold headD
 split at h
 .rename_i e;rw[zaf,zdf] at h;rw[if_pos e];obtain⟨G,h2⟩:=h;cases h2;exact⟨G,H⟩
 .rename_i e;rw[if_neg (by rw[e];decide)]
  split at h
  .cases h;exact H
  .cases h
theorem z3d{ti:TI}{l:List Sym}(h:yho ti l=some s)(H:k s):zve ti l k:=by
 unfold yho at h;unfold zve
 split at h
 .rename_i e;rw[zaf,zdf] at h;rw[if_pos e];obtain⟨G,h2⟩:=h;cases h2;exact⟨G,H⟩
 .rename_i e;rw[if_neg (by rw[e];decide)]
  split at h
  .cases h;exact H
  .cases h
theorem z7a{ti:TI}{x:Sym}(h:ynk look ti x=some s)(H:k s):zmn look ti x k:=by
 unfold ynk at h
 split at h
 .simp only[zmn];exact zri h H
 .rename_i id off
  simp only[zmn];cases G:look id with
  |none=>rw[G] at h;cases h
  |some o=>
   rw[G] at h;cases o <;> simp only at h ⊢ <;> first | exact z3d h H | cases h
 .rename_i id sz i off
  simp only[zmn];cases G:look id with
  |none=>rw[G] at h;cases h
  |some o=>
   rw[G] at h;cases o <;> simp only at h ⊢ <;> first
    |(rw[zaf,Bool.and_eq_true,beq_iff,zbu] at h;exact⟨h.1.1,h.1.2,zri h.2 H⟩)
    |cases h
 .cases h
theorem zrt{kd:TK}{x:Sym}{f:Nat}(h:zp8 kd x f=some s)(H:k s):zeg kd x f k:=by
 have G:∀ {sz:Nat},(!Nat.beq sz 0)=true->sz≠0:=by intro sz h e;subst e;simp at h
 unfold zp8 at h;unfold zeg
 split at h
 .split at h
  .rename_i hf;simp only[hf];rw[zaf] at h;obtain⟨F,h2⟩:=h;cases h2;exact⟨G F,H⟩
  .rename_i hf;simp only[hf];rw[zaf] at h;obtain⟨F,h2⟩:=h;cases h2;exact⟨G F,H⟩
  .rename_i hf;simp only[hf];rw[zaf] at h;obtain⟨F,h2⟩:=h;cases h2;exact⟨G F,H⟩
  .cases h
 .cases h
theorem z3e{kd:TK}{x:Sym}{f:Nat}(h:yhp kd x f=some s)(H:k s):zqr kd x f k:=by
 unfold yhp at h;unfold zqr
 split at h
 .split at h
  .rename_i hf;simp only[hf]
   split at h
   .rw[zaf,zdf] at h;obtain⟨G,h2⟩:=h;cases h2;exact⟨G,H⟩
   .simp only[Bool.false_eq_true,if_false]
    split at h
    .rename_i hd;cases h;rw[hd];exact H
    .cases h
  .rename_i hf;simp only[hf]
   split at h
   .rw[zaf,zdf] at h;obtain⟨G,h2⟩:=h;cases h2;exact⟨G,H⟩
   .simp only[Bool.false_eq_true,if_false]
    split at h
    .rename_i hd;cases h;rw[hd];exact H
    .cases h
  .cases h
 .cases h
theorem zru{esz:Nat}{x y:Sym}(h:zp9 look esz x y=some s)(H:k s):zcs look esz x y k:=by
 unfold zp9 at h
 split at h
 .rw[zaf] at h;simp only[Bool.and_eq_true,decide_eq_true_eq,beq_iff] at h;obtain⟨⟨⟨G,h2⟩,F⟩,E⟩:=h;cases E
  simp only[zcs];exact⟨⟨G,h2⟩,F,H⟩
 .rename_i id _ n
  simp only[zcs];cases K:look id with
  |none=>rw[K] at h;cases h
  |some o=>
   rw[K] at h;cases o <;> simp only at h ⊢ <;> first
    |(rw[zaf] at h;simp only[Bool.and_eq_true,decide_eq_true_eq,beq_iff] at h;obtain⟨⟨⟨G,h2⟩,F⟩,E⟩:=h;cases E;exact⟨⟨G,h2⟩,F,H⟩)
    |cases h
 .cases h
theorem z3f{x y:Sym}(h:yhq x y=some s)(H:k s):zqs x y k:=by
 unfold yhq at h
 split at h
 .rw[zaf] at h;simp only[Bool.and_eq_true,decide_eq_true_eq] at h
  obtain⟨⟨G,h2⟩,F⟩:=h;cases F;simp only[zqs];exact⟨⟨G,h2⟩,H⟩
 .cases h
theorem zkv{kd:IntKind}{n:Int}(h:zu0 kd n=some s)(H:k s):arith kd n k:=by
 cases kd <;> simp only[zu0,arith] at h ⊢ <;> first
  |(rw[zaf] at h;simp only[Bool.and_eq_true,decide_eq_true_eq] at h;obtain⟨G,h2⟩:=h;cases h2;split;(rw[IntWalk.i64_in n (by omega)];exact H);exact⟨G,H⟩)
  |(cases h;exact H)
theorem zzg{kd:IntKind}{a b:Int}{op:BinOp}(h:z6r kd a b op=some s)(H:k s):zpj kd a b k op:=by
 cases op <;> simp only[z6r,zpj] at h ⊢ <;> first
  |exact zkv h H
  |(rw[zaf] at h;obtain⟨G,h2⟩:=h;refine⟨by simpa using G,?_⟩;first |exact zkv h2 H |(cases h2;exact H))
  |(cases h;exact H)
  |cases h
theorem yhv(a:ByteArray):a.toList=bl a:=ByteArray.toList_eq a
theorem zzh{a b:ByteArray}{op:BinOp}(h:z6s a b op=some s)(H:k s):zpk a b k op:=by
 cases op <;> simp only[z6s,zpk,yhv] at h ⊢ <;> first
  |(rw[zaf,zdf] at h;obtain⟨G,h2⟩:=h;cases h2;exact⟨by omega,H⟩)
  |(cases h;exact H)
  |cases h
theorem zvr{a b:Bool}{op:BinOp}(h:zzc a b op=some s)(H:k s):zk6 a b k op:=by
 cases op <;> simp only[zzc,zk6] at h ⊢ <;> first | (cases h;exact H) | cases h
theorem ycm{op:BinOp}{x y:Sym}(h:xbin op x y=some s)(H:k s):sbin op x y k:=by
 unfold xbin at h
 split at h
 .split at h
  .rw[zaf] at h;obtain⟨G,h2⟩:=h;cases h2;simp only[sbin];exact⟨by simpa using G,H⟩
  .rw[zaf] at h;obtain⟨G,h2⟩:=h;cases h2;simp only[sbin];exact⟨by simpa using G,H⟩
  .rename_i n1 n2
   rw[zaf] at h;obtain⟨G,h2⟩:=h;have G:_=_:=of_decide_eq_true G
   have F:=zzg h2 H;cases op <;> first | exact absurd rfl n1 | exact absurd rfl n2 | (simp only[sbin];exact⟨G,F⟩)
 .simp only[sbin];exact zzh h H
 .simp only[sbin];exact zvr h H
 .split at h
  .cases h;simp only[sbin];intro b E;cases b
   .exact H
   .exact absurd (E rfl) (by simp)
  .cases h;simp only[sbin];intro b E;cases b
   .exact H
   .exact absurd (E rfl) (by simp)
  .cases h
 .split at h
  .cases h;simp only[sbin];exact H
  .cases h;simp only[sbin];exact H
  .cases h
 .cases h
theorem zzi(G:XGood P Γ){op:BinOp}{t:Nat}{x y:Sym}(h:z6t Γ op t x y=some s)(F:k s):zqv P op t x y k:=by
 unfold z6t at h
 split at h
 .split at h
  .rename_i ks H
   split at h
   .rename_i r hr
    simp only[zqv,G.ek H,hr];split at h
    .cases h;exact F
    .cases h;exact F
    .cases h
   .cases h
  .cases h
 .cases h
theorem yhw{op:UnOp}{x:Sym}(h:xun op x=some s)(H:k s):sun op x k:=by
 unfold xun at h
 split at h
 .split at h
  .cases h;simp only[sun];exact H
  .cases h
 .split at h
  .simp only[sun];exact zkv h H
  .cases h
 .cases h
theorem zvs{kd:TK}{x:Sym}(h:zzd kd x=some s)(H:k s):zf5 kd x k:=by
 unfold zzd at h
 split at h
 .cases h;simp only[zf5];exact H
 .cases h;simp only[zf5];exact H
 .cases h
theorem zvt{x:Sym}{i:Nat}(h:zze x i=some s)(H:k s):zf6 x i k:=by
 unfold zze at h
 split at h
 .split at h
  .rename_i hx;cases h;simp only[zf6,hx];exact H
  .cases h
 .simp only[zf6,h];exact H
 .cases h
theorem ycn{kd:TK}{x:Sym}(h:xlen look kd x=some s)(H:k s):slen look kd x k:=by
 unfold xlen at h
 split at h
 .cases h;simp only[slen];exact H
 .cases h;simp only[slen];exact H
 .cases h;simp only[slen];exact H
 .split at h
  .rename_i hx;cases h;simp only[slen,hx];exact H
  .cases h
 .cases h;simp only[slen];exact H
 .cases h
theorem z3g(H:XGood P Γ){kd:TK}{x:Sym}{lo hi:Option Sym}(h:yhr Γ look kd x lo hi=some s)(G:k s):ztr P kd=true/\zh4 P look kd x lo hi k:=by
 unfold yhr at h
 split at h
 .split at h
  .rename_i te o F E h2 K
   rw[zaf] at h;simp only[Bool.and_eq_true,decide_eq_true_eq,List.all_eq_true,beq_iff] at h;obtain⟨⟨⟨⟨q1,q2⟩,q3⟩,q4⟩,q5⟩:=h;cases q5;simp only[zh4,ztr,H.ti E,h2,K,elemSize];exact⟨rfl,⟨q1,q2,q3⟩,q4,G⟩
  .cases h
 .split at h
  .rename_i T sz rows te J E
   split at h
   .rename_i o F h2 K
    rw[zaf] at h;simp only[Bool.and_eq_true,decide_eq_true_eq,beq_iff] at h;obtain⟨⟨⟨⟨q1,q2⟩,q3⟩,q4⟩,q5⟩:=h;cases q5;simp only[zh4,ztr,H.ti E,J,h2,K,elemSize];refine⟨rfl,⟨q1,q2,q3⟩,q4,?_⟩
    by_cases e:o=F
    .rw[if_pos e];simpa[e] using G
    .rw[if_neg e];simpa[e] using G
   .cases h
  .cases h
 .split at h
  .rename_i o F h2 K
   rw[zaf] at h;simp only[Bool.and_eq_true,decide_eq_true_eq] at h;obtain⟨⟨⟨q1,q2⟩,q3⟩,q5⟩:=h;cases q5;simp only[zh4,ztr,h2,K];exact⟨trivial,⟨q1,q2,q3⟩,G⟩
  .cases h
 .cases h
theorem yco{x:Sym}(h:xnil x=some s)(H:k s):snil x k:=by
 unfold xnil at h
 split at h <;> first | (cases h;simp only[snil];exact H) | cases h
theorem z7b{ti:TI}(h:ynl ti=some s)(H:k s):zeroS ti k:=by
 unfold ynl at h;unfold zeroS
 split at h
 .rename_i e;rw[zaf] at h;obtain⟨G,h2⟩:=h;cases h2;rw[if_pos e];exact⟨G,H⟩
 .rename_i e;rw[if_neg (by rw[e];decide)]
  split at h
  .rename_i hz;cases h;rw[hz];exact H
  .cases h
theorem zzj{kk:TK}{te:TI}{c:Bool}{m x:Sym}(h:z6u look kk te c m x=some s)(H:k s):zgq look kk te c m x k:=by
 unfold z6u at h
 split at h
 .rename_i rows y hr
  rw[zaf] at h;obtain⟨G,h⟩:=h;simp only[zgq,hr];refine⟨G,?_⟩
  split at h
  .rename_i v hv;cases h;rw[hv];cases c <;> exact H
  .rename_i hv
   rw[hv];split at h
   .rename_i z F;cases h
    refine z7b F ?_
    cases c <;> exact H
   .cases h
  .cases h
 .cases h
theorem z3h{ti:TI}{parts:List (Nat×Sym)}(h:yhs ti parts=some s)(H:k s):zq0 ti parts k:=by
 unfold yhs at h
 split at h
 .rename_i fs hkd
  rw[zaf] at h;obtain⟨G,h⟩:=h;simp only[zq0,hkd];refine⟨G,?_⟩
  split at h
  .rename_i out ho;cases h;rw[ho];exact H
  .cases h
 .cases h
theorem zu4(G:XGood P Γ){op:Op}(h:xop Γ look ρ op=some s)(F:k s):sopB P look ρ op k:=by
 unfold xop at h
 split at h
 .cases h;simp only[sopB,sop];exact F
 .cases h;simp only[sopB,sop];exact F
 .rename_i c x y
  simp only[sopB,sop];split at h
  .rename_i e;cases h;rw[e];simp only[z5o,if_true];exact F
  .rename_i e;cases h;rw[e];simp only[z5o,Bool.false_eq_true,if_false];exact F
  .cases h
 .split at h
  .rename_i E;simp only[sopB,sop,G.ti E];exact z7a h F
  .cases h
 .split at h
  .rename_i E;simp only[sopB,sop,G.ti E];exact zrt h F
  .cases h
 .split at h
  .rename_i E;simp only[sopB,sop,G.ti E];exact z3e h F
  .cases h
 .split at h
  .rename_i E
   split at h
   .rename_i ht2;simp only[sopB,sop,G.ti E,G.ti ht2];exact zru h F
   .cases h
  .cases h
 .split at h
  .rename_i E;simp only[sopB,sop,G.ti E];exact z3f h F
  .cases h
 .split at h
  .rename_i E;simp only[sopB,sop,G.ti E];exact z3g G h F
  .cases h
 .split at h
  .rename_i E
   simp only[sopB,sop,G.ti E];split at h
   .rename_i e1 e2;right;rw[e1,e2];exact zzi G h F
   .rename_i e;rw[zaf] at h;left;exact⟨h.1,ycm h.2 F⟩
  .cases h
 .simp only[sopB,sop];exact yhw h F
 .split at h
  .rename_i K h2;simp only[sopB,sop,G.ti K,G.ti h2];exact zvs h F
  .cases h
 .simp only[sopB,sop];exact zvt h F
 .split at h
  .rename_i E
   split at h
   .rename_i K h2;rw[zaf] at h;simp only[sopB,sop,G.ti E,G.ti K,G.ti h2];exact⟨G.zf h.1,zzj h.2 F⟩
   .cases h
  .cases h
 .simp only[sopB,sop];exact yco h F
 .split at h
  .rename_i J L
   split at h
   .rename_i E;simp only[sopB,sop,J,L,G.ti E];exact ycn h F
   .cases h
  .cases h
 .simp only[sopB,sop]
  split at h
  .rename_i heq;rw[heq];cases h;simp only[ziu];rename_i a _ b
   by_cases e:b>a
   .simpa[e] using F
   .simpa[e] using F
  .cases h
 .simp only[sopB,sop]
  split at h
  .rename_i heq;rw[heq];cases h;simp only[ziu];rename_i a _ b
   by_cases e:b<a
   .simpa[e] using F
   .simpa[e] using F
  .cases h
 .split at h
  .rename_i E;simp only[sopB,G.ti E];exact z3h h F
  .cases h
 .rename_i t n parts
  split at h
  .rename_i e _ _ _ _ E
   split at h
   .rename_i te xs H hin
    split at h
    .rename_i rows hrows
     rw[zaf] at h;simp only[Bool.and_eq_true,beq_iff,zbu,zdf] at h;obtain⟨⟨⟨K,h2⟩,M⟩,h⟩:=h;cases h;simp only[sopB,ziz];rw[G.ti E];simp only;rw[G.ti H];simp only;rw[hin];simp only;rw[hrows];exact⟨K,h2,M,F⟩
    .cases h
   .cases h
  .cases h
 .split at h
  .rename_i hf;cases h;simp only[sopB,hf];exact F
  .cases h
 .cases h
end
end Go.V
namespace Go.V
variable [Dr] [Ov]
open Go.RowKit
def zbe(P:Program)(call:Caller):Prop:=∀ f args own n r,call f args own n=some r->Sym.los n args->zbl P f args own n r.s r.nx r.own r.mv
theorem zcn:∀ {ids:List Nat} {i:Nat},i∈ids->rho ids (zcf ids i)=i/\zcf ids i<ids.length
 |j::r,i,h=>by
  simp only[zcf];cases G:Nat.beq i j with
  |true=>rw[beq_iff] at G;subst G;simp[rho]
  |false=>
   have H:i≠j:=λe=>by rw[beq_iff.2 e] at G;cases G
   have F:i∈r:=by rcases List.mem_cons.1 h with h | h;exact absurd h H;exact h
   obtain⟨E,h2⟩:=zcn F;simp only[rho] at E ⊢;simp only[List.getD_cons_succ,List.length_cons];exact⟨E,by omega⟩
mutual
theorem ynm{ids:List Nat}:∀ {s:Sym},innB ids s=true->ren (rho ids) (ren (zcf ids) s)=s/\Sym.lo ids.length (ren (zcf ids) s)
 |.bp i o,h=>by simp only[innB,any_beq] at h;have:=zcn h;simp only[ren,Sym.lo];exact⟨by rw[this.1],this.2⟩
 |.ar i,h=>by simp only[innB,any_beq] at h;have:=zcn h;simp only[ren,Sym.lo];exact⟨by rw[this.1],this.2⟩
 |.ap i s j o,h=>by simp only[innB,any_beq] at h;have:=zcn h;simp only[ren,Sym.lo];exact⟨by rw[this.1],this.2⟩
 |.aS i s j o,h=>by simp only[innB,any_beq] at h;have:=zcn h;simp only[ren,Sym.lo];exact⟨by rw[this.1],this.2⟩
 |.av i s j o,h=>by simp only[innB,any_beq] at h;have:=zcn h;simp only[ren,Sym.lo];exact⟨by rw[this.1],this.2⟩
 |.yd i,h=>by simp only[innB,any_beq] at h;have:=zcn h;simp only[ren,Sym.lo];exact⟨by rw[this.1],this.2⟩
 |.mp i,h=>by simp only[innB,any_beq] at h;have:=zcn h;simp only[ren,Sym.lo];exact⟨by rw[this.1],this.2⟩
 |.tup l,h=>by simp only[innB] at h;have:=zhc h;simp[ren,Sym.lo,this.1,this.2]
 |.agg l,h=>by simp only[innB] at h;have:=zhc h;simp[ren,Sym.lo,this.1,this.2]
 |.fn f l,h=>by simp only[innB] at h;have:=zhc h;simp[ren,Sym.lo,this.1,this.2]
 |.d x,h=>by simp[ren,Sym.lo]
 |.nils,h=>by simp[ren,Sym.lo]
 |.junk,h=>by simp[ren,Sym.lo]
theorem zhc{ids:List Nat}:∀ {l:List Sym},zm1 ids l=true->rens (rho ids) (rens (zcf ids) l)=l/\Sym.los ids.length (rens (zcf ids) l)
 | [],h=>by simp[rens,Sym.los]
 |s::r,h=>by
  simp only[zm1,Bool.and_eq_true] at h;have H:=ynm h.1;have h2:=zhc h.2;simp[rens,Sym.los,H.1,H.2,h2.1,h2.2]
end
theorem z9y{ids:List Nat}{o:Obj'}(h:innO ids o=true):zet (rho ids) (zet (zcf ids) o)=o/\(zet (zcf ids) o).lo ids.length:=by
 cases o with
 |box T cells=>simp only[innO] at h;have:=zhc h;simp[zet,Obj'.lo,this.1,this.2]
 |arr T sz rows=>simp[zet,Obj'.lo]
 |map T rows=>simp[zet,Obj'.lo]
 |raw k cells=>simp only[innO] at h;have:=zhc h;simp[zet,Obj'.lo,this.1,this.2]
theorem zi8:∀ {l:List Nat},nodupB l=true->l.Nodup
 | [],_=>List.nodup_nil
 |i::r,h=>by
  simp only[nodupB,Bool.and_eq_true,Bool.not_eq_true'] at h;refine List.nodup_cons.2 ⟨λhm=>?_,zi8 h.2⟩
  rw[any_beq.2 hm] at h;cases h.1
theorem zqb{look:Nat->Option Obj'}{ids:List Nat}:∀ {k:Nat} {l:List Nat} {own0:List (Nat×Obj')},z2x look ids k l=some own0->(∀ j x,l[j]?=some x->rho ids (k+j)=x) ->
  own0.map (·.1)=List.range' k l.length/\(∀ i o,(i,o)∈own0->∃ o',look (rho ids i)=some o'/\o=zet (zcf ids) o'/\innO ids o'=true)/\∀ i∈l,∃ o,look i=some o
 |k,[],own0,h,_=>by simp[z2x] at h;subst h;simp
 |k,i::r,own0,h,G=>by
  simp only[z2x] at h;split at h
  .rename_i o F
   split at h
   .rename_i H
    split at h
    .rename_i l E
     cases h;obtain⟨K,h2,J⟩:=zqb E (λj x L=>by have:=G (j+1) x (by simpa using L);rw[<-this];congr 1;omega)
     have M:rho ids k=i:=G 0 i (by simp)
     refine⟨by simp only[List.map_cons,List.length_cons,List.range'_succ,K],?_,?_⟩
     .intro i' o' O
      rcases List.mem_cons.1 O with e | O
      .cases e;exact⟨o,by rw[M];exact F,rfl,H⟩
      .exact h2 i' o' O
     .intro i' O
      rcases List.mem_cons.1 O with e | O
      .subst e;exact⟨o,F⟩
      .exact J i' O
    .cases h
   .cases h
  .cases h
theorem zu5{st:St}{ids:List Nat}:∀ {l:List (Nat×Obj')},(∀ i o,(i,o)∈l->st.look (rho ids i)=some (zet (rho ids) o)/\o.lo ids.length)->zt6 st ids l
 | [],_=>trivial
 |(i,o)::r,h=>by
  simp only[zt6];obtain⟨H,h2⟩:=h i o (by simp)
  rw[H];exact⟨rfl,h2,zu5 λi' o' G=>h i' o' (List.mem_cons_of_mem _ G)⟩
section
variable {P:Program} {Γ:XG} {call:Caller} {X:Nat->Prop} {w0:Base} {st:St} {xs xs':XS} {β:Nat->Value} {a:Act} {w:World}
theorem zxb(J:zbe P call)(H:Ag st xs)(L:Mods X w0 st β a w){f:Operand}{args:List Operand}{dst:Option Tmp}{g n:Nat}{caps:List Sym}(G:zbm (st.val f)=some (g,caps))
  (M:xdst dst n=true) (h:xmut call xs g (args.map st.val++caps) dst=some xs'):EMut P st f args dst (λst'=>Ag st' xs'):=by
 unfold xmut at h
 simp only at h
 generalize E:reach xs.look 1000 (ze0 (args.map st.val++caps) []) (ze0 (args.map st.val++caps) [])=ids at h
 split at h
 .rename_i own0 O
  rw[zaf,Bool.and_eq_true] at O;obtain⟨⟨Q,K⟩,O⟩:=O;split at h
  .rename_i r T
   cases h;obtain⟨V,h2⟩:=zhc K;obtain⟨q1,q2,q3⟩:=zqb O (λj x Y=>by simp[rho,Y])
   refine⟨g,caps,ids,rens (zcf ids) (args.map st.val++caps),own0,r.s,r.nx,r.own,r.mv,G,V,h2,⟨zi8 Q,?_,by rw[q1,List.range_eq_range'],?_⟩,J _ _ _ _ _ T h2,?_⟩
   .intro id hid
    obtain⟨o,Z⟩:=q3 id hid;rw[<-H.look] at Z;exact(L.obj Z).1
   .refine zu5 λi o F=>?_
    obtain⟨o',A,B,C⟩:=q2 i o F;obtain⟨I,N⟩:=z9y C;rw[H.look,B,I];exact⟨A,N⟩
   .rw[H.next]
    exact(H.after L.still.1 ids r.nx r.own r.mv).put M _
  .cases h
 .cases h
theorem zkw{w:World}{E:Nat->Prop}{β:Nat->Value}:∀ {l:List Sym} {ds:List D} {vs:List Value},allD l=some ds->Sms w E β l vs->za9 w E ds vs
 | [],ds,vs,h,hs=>by simp[allD] at h;subst h;simpa[Sms,za9] using hs
 |s::r,ds,vs,h,hs=>by
  simp only[allD] at h;split at h
  .rename_i x xs G H
   cases h;simp only[Sms] at hs;obtain⟨v,vs',rfl,F,h2⟩:=hs;simp only[za9];refine⟨v,vs',rfl,?_,zkw H h2⟩
   cases s <;> simp only[unD] at G <;> cases G
   .simpa[Sm] using F
   .simp only[Sm] at F;subst F;simp only[R];exact⟨none,0,rfl,by simp,by simp,λ_=>rfl,by simp⟩
  .cases h
theorem zl9{f:Nat}{ds:List D}{r:D}{nx:Nat}{own:List (Nat×Obj')}{mv:List Nat}(h:zbl P f (ds.map .d) [] 0 (.d r) nx own mv):zan P f ds r:=by
 refine⟨h.1,λw E vs F K=>?_⟩
 have J:Mods E (.of w) (zbt [] 0 0 []) (λ_=>.pointer none) act0 w:=
  ⟨⟨λb L hmay=>hmay.elim (λh=>by have:w.heap.size<=b:=h;have:=F.1 b L;omega) (λh=>h),F.2.over (Over.less λb h=>h.elim id False.elim)⟩,⟨Nat.le_refl _,λ_ _ _=>rfl⟩,λ_=>rfl,rfl,rfl,Kept.refl _,by simp[zbt],by simp[zbt],by simp[zbt],by intro t s M;simp[zbt,zac] at M⟩
 have H:Over w E w (Ex E (λ_=>Value.pointer none) []):=Over.less λb L=>L.elim id λ⟨_,_,O,_⟩=>by cases O
 refine(h.2 E (.of w) _ w vs rfl J (Sms.zd1 (za9.over H _ _ K))).mono λe w' Q=>?_
 obtain⟨β',v,rfl,G,_,hs⟩:=Q
 simp only[Sm] at hs
 exact⟨v,rfl,G.below.below,R.over (Over.less λb L=>.inl L) _ _ hs⟩
theorem zvu{f:Nat}{args:List Sym}{ds:List D}{r:D}{own:List (Nat×Obj')}{n:Nat}(h:zan P f ds r)(F:allD args=some ds):zbl P f args own n (.d r) n own []:=by
 refine⟨h.1,λX w0 β w vs hβ E hs=>?_⟩
 have K:za9 w (Ex X β own) ds vs:=zkw F hs
 refine(h.2 w (Ex X β own) vs E.seen K).mono λe w' J=>?_
 obtain⟨v,rfl,L,H⟩:=J
 have G:=E.put L (dst:=none) (s:=.junk) (v:=v) (by simp) (by simp[Sym.lo]) (by simp[Sm])
 exact⟨β,v,rfl,G,by simp[Sym.lo],by simpa[Sm] using H⟩
theorem orElse_some{α:Type}{x y:Option α}{r:α}(h:orElse' x y=some r):x=some r\/y=some r:=by
 unfold orElse' at h
 split at h
 .exact .inl h
 .exact .inr h
theorem zzk(O:zbe P call)(H:Ag st xs)(Q:Mods X w0 st β a w){o:Oper}{f:Operand}{args:Array Operand}{ts:Array TypeId}(T:o.op = .call {callee:=.value f,args,argTypes:=ts})
  {n:Nat} (V:xdst o.dst n=true) (K:∀ t,o.dst=some t->t<st.n) (h:z6x Γ call xs f args.toList o.dst=some xs'):Goes P X w0 o a w (λst'=>Ag st' xs'):=by
 unfold z6x at h
 rw[<-H.val] at h
 split at h
 .rename_i g caps G
  have k1:xmut call xs g (args.toList.map st.val++caps) o.dst=some xs'->Goes P X w0 o a w (λst'=>Ag st' xs'):=λh=>zlf Q T K (zxb O H Q G V h)
  have k2:z6w call xs g (args.toList.map st.val++caps) o.dst=some xs'->Goes P X w0 o a w (λst'=>Ag st' xs'):=by
   intro h;unfold z6w at h;split at h
   .rw[<-H.look] at h
    split at h
    .rename_i ds b hl
     split at h
     .rename_i r nx own' mv Y
      rw[zaf] at h;obtain⟨M,h⟩:=h;cases h;have Z:=zl9 (O _ _ _ _ _ Y (Sym.zwn 0 ds));refine zkk Q T K ?_
      unfold zl4 zd8;rw[G];simp only[hl];exact .inl ⟨r,Z,λ_=>.inl M,H.put V _⟩
     .cases h
    .cases h
   .cases h
  have k3:∀ L,zu1 call xs f args.toList o.dst L=some xs'->Goes P X w0 o a w (λst'=>Ag st' xs'):=by
   intro L h;unfold zu1 at h;have F:Ag (st.frzs L) (xs.frzs L):=H.frzs
   have J:Mods X w0 (st.frzs L) β a w:=Q.frzs
   rw[<-F.val] at h;split at h
   .rename_i g' caps' E
    exact zlf J T (λt e=>by rw[(zkg L st).2];exact K t e) (zxb O F J E V h)
   .cases h
  simp only at h
  split at h
  .exact k1 h
  .split at h
   .rcases orElse_some h with h | h
    .exact k2 h
    .rcases orElse_some h with h | h
     .exact k1 h
     .exact k3 _ h
   .split at h
    .rcases orElse_some h with h | h
     .exact k1 h
     .exact k3 _ h
    .rcases orElse_some h with h | h
     .exact k3 _ h
     .exact k1 h
 .cases h
end
end Go.V
namespace Go.V
variable [Dr] [Ov]
open Go.RowKit
section
variable {P:Program} {Γ:XG} {call:Caller} {X:Nat->Prop} {w0:Base} {st:St} {xs xs':XS} {β:Nat->Value} {a:Act} {w:World}
theorem zzl(look:St)(id:Nat)(s:Sym){l:List (List D)}(h:xsrc look.look id s=some l):zde look id s=some l:=by
 unfold xsrc at h
 split at h
 .exact h
 .exact h
 .rename_i j
  split at h
  .cases h
  .rename_i H
   simp only[zde];rw[if_neg (λe=>by rw[beq_iff.2 e] at H;cases H)]
   exact h
 .rename_i j sz lo n
  split at h
  .cases h
  .rename_i H
   simp only[zde];rw[if_neg (λe=>by rw[beq_iff.2 e] at H;cases H)]
   split at h
   .rename_i T sz' rows hl
    rw[zaf,Bool.and_eq_true,beq_iff,zdf] at h;rw[hl];simp only;rw[if_pos h.1];exact h.2
   .cases h
 .cases h
theorem zzm{n:Nat}{l:List (List D)}(h:l.all (λr=>Nat.beq r.length n)=true):∀ r∈l,r.length=n:=by
 intro r H
 exact beq_iff.1 (List.all_eq_true.1 h r H)
theorem zi9(O:XGood P Γ)(Q:zbe P call)(H:Ag st xs)(V:Mods X w0 st β a w){o:Oper}(h:zzf Γ call o xs=some xs'):Goes P X w0 o a w (λst'=>Ag st' xs'):=by
 unfold zzf at h
 rw[zaf] at h
 obtain⟨Y,h⟩:=h
 have G:∀ t,o.dst=some t->t<st.n:=λt e=>by rw[H.n];exact(zgy Y).1 t e
 rw[<-H.val,<-H.look] at h
 split at h
 .rename_i T x Z
  split at h
  .rename_i l A
   cases h;refine zwq V Z G ?_
   unfold eBox;rw[A];simp only;rw[H.next];exact(H.new _).put Y _
  .cases h
 .rename_i T Z
  split at h
  .rename_i ti B
   rw[zaf] at h;obtain⟨C,h⟩:=h;cases h;refine zqy V Z (O.ti B) G ⟨C,?_⟩
   rw[H.next];exact(H.new _).put Y _
  .cases h
 .rename_i Z
  split at h
  .rename_i e _ _ _ _ B
   split at h
   .rename_i te hte
    cases h;refine zwr V Z G (e:=e) (sz:=te.size) ?_
    unfold eNil;rw[H.next];exact(H.new _).put Y _
   .cases h
  .cases h
 .rename_i t n parts Z
  split at h
  .rename_i e _ _ _ _ B
   split at h
   .rename_i te hte
    split at h
    .rename_i l A
     simp only at h
     have E:Ag (st.frzs (zf2 (l.map st.val))) (xs.frzs (zf2 (l.map st.val))):=H.frzs
     rw[<-E.val] at h;split at h
     .rename_i rows hrows
      rw[zaf] at h;simp only[Bool.and_eq_true,beq_iff,zbu,zdf] at h;obtain⟨⟨⟨C,h2⟩,I⟩,h⟩:=h;cases h;refine zq1 V Z G ?_
      unfold zt2;rw[O.ti B];simp only;rw[O.ti hte];simp only;rw[A];simp only;refine⟨C,h2,I,?_⟩
      rw[hrows];simp only;rw[E.next];exact(E.new _).put Y _
     .cases h
    .cases h
   .cases h
  .cases h
 .rename_i t ad x Z
  split at h
  .rename_i ti J B
   refine zqz V Z (O.ti B) J ?_
   unfold zlz;split at h
   .rename_i id off had
    rw[had];simp only;split at h
    .rename_i T cells F
     rw[F];simp only;split at h
     .rename_i l A
      rw[zaf] at h;simp only[Bool.and_eq_true,beq_iff,zdf] at h;obtain⟨⟨C,h2⟩,h⟩:=h;cases h;rw[A];exact⟨C,h2,H.set id _⟩
     .cases h
    .cases h
   .rename_i id sz i off had
    rw[had];simp only;split at h
    .rename_i T sz' rows F
     rw[F];simp only;split at h
     .rename_i l A
      rw[A];simp only;split at h
      .rename_i ds hds
       rw[zaf] at h;simp only[Bool.and_eq_true,beq_iff,zdf,zbu] at h;obtain⟨⟨⟨⟨C,h2⟩,I⟩,N⟩,h⟩:=h;cases h;rw[hds];exact⟨C,h2,I,N,H.set id _⟩
      .cases h
     .cases h
    .cases h
   .cases h
  .cases h
 .rename_i t l c Z
  refine zt4 V Z G ?_
  unfold yf5;split at h
  .rename_i e _ _ _ _ _ ln _ cn B A hcv
   rw[O.ti B,A,hcv];simp only;split at h
   .rename_i te hte
    rw[O.ti hte];simp only;split at h
    .rename_i x S
     rw[zaf] at h;simp only[Bool.and_eq_true,beq_iff,zbu,decide_eq_true_eq] at h;obtain⟨⟨⟨⟨⟨⟨⟨W,C⟩,h2⟩,I⟩,N⟩,h5⟩,h6⟩,h⟩:=h;cases h;rw[S];refine⟨W,C,h2,I,N,h5,h6,?_⟩;rw[H.next];exact(H.new _).put Y _
    .cases h
   .cases h
  .cases h
 .rename_i t Z
  cases h;refine zl1 V Z G ?_
  unfold zr5;rw[H.next];exact(H.new _).put Y _
 .rename_i t m x v Z
  split at h
  .rename_i id x' v' kt _ _ _ _ _ J M S hv B
   refine zjh V Z J ?_
   unfold zie;rw[M,S,hv,O.ti B];simp only;split at h
   .rename_i T rows tk F htk
    rw[F,O.ti htk];simp only;split at h
    .rename_i rows' hp
     rw[zaf] at h;obtain⟨C,h⟩:=h;cases h;rw[hp];exact⟨C,H.set _ _⟩
    .cases h
   .cases h
  .cases h
 .rename_i xs' ts Z
  split at h
  .rename_i s x t t' S B
   have e1:xs' = #[s,x]:=by cases xs';simp at S;rw[S]
   have e2:ts = #[t,t']:=by cases ts;simp at B;rw[B]
   subst e1;subst e2;refine zoa V Z G ?_
   unfold zmr;split at h
   .rename_i e _ _ _ _ hte
    rw[O.ti hte];simp only;split at h
    .rename_i te K
     rw[O.ti K];simp only;split at h
     .rename_i id hs
      rw[hs];simp only;split at h
      .rename_i T sz rows l F hsrc
       rw[zaf] at h;simp only[Bool.and_eq_true,beq_iff,zdf,zbu] at h;obtain⟨⟨⟨⟨⟨⟨⟨⟨⟨C,h2⟩,I⟩,L⟩,N⟩,h5⟩,h6⟩,h7⟩,h8⟩,h⟩:=h;cases h;refine⟨C,h2,I,L,?_⟩
       rw[F,zzl st id _ hsrc];simp only;exact⟨N,h5,zzm h6,h7,h8,(H.renew id _).put Y _⟩
      .cases h
     .rename_i hs
      rw[hs];simp only;have E:Ag (st.new (.arr e te.size [])) (xs.new (.arr e te.size [])):=H.new _
      rw[<-E.look,<-H.next] at h;split at h
      .rename_i l hsrc
       rw[zaf] at h;simp only[Bool.and_eq_true,beq_iff,zdf,zbu] at h;obtain⟨⟨⟨⟨⟨⟨⟨C,h2⟩,I⟩,L⟩,h6⟩,h7⟩,h8⟩,h⟩:=h;cases h;refine⟨C,h2,I,L,?_⟩
       rw[zzl (st.new (.arr e te.size [])) st.next _ hsrc];simp only;exact⟨zzm h6,h7,h8,(E.renew st.next _).put Y _⟩
      .cases h
     .cases h
    .cases h
   .cases h
  .cases h
 .rename_i xs' ts Z
  split at h
  .rename_i d s t t' S B
   have e1:xs' = #[d,s]:=by cases xs';simp at S;rw[S]
   have e2:ts = #[t,t']:=by cases ts;simp at B;rw[B]
   subst e1;subst e2;refine zt3 V Z G ?_
   unfold yf4;split at h
   .rename_i e _ _ _ _ hte
    rw[O.ti hte];simp only;split at h
    .rename_i te l K hsrc
     rw[O.ti K];simp only;rw[zaf,Bool.and_eq_true,zbu] at h;obtain⟨⟨C,h2⟩,h⟩:=h;rw[<-H.next] at hsrc;rw[zzl st st.next _ hsrc];simp only;refine⟨C,zzm h2,?_⟩
     split at h
     .rename_i hds
      cases h;rw[hds];exact H.put Y _
     .rename_i id sz lo n hds
      rw[hds];simp only;split at h
      .rename_i T sz' rows F
       rw[zaf] at h;simp only[Bool.and_eq_true,beq_iff,zdf] at h;obtain⟨⟨⟨I,N⟩,h5⟩,h⟩:=h;cases h;rw[F];exact⟨I,N,h5,(H.set id _).put Y _⟩
      .cases h
     .rename_i id hds
      rw[hds];simp only;split at h
      .rename_i T sz' rows F
       rw[zaf,beq_iff] at h;obtain⟨N,h⟩:=h;cases h;rw[F];exact⟨N,(H.set id _).put Y _⟩
      .cases h
     .cases h
    .cases h
   .cases h
  .cases h
 .rename_i xs' ts Z
  split at h
  .rename_i x t S B
   have e1:xs' = #[x]:=by cases xs';simp at S;rw[S]
   have e2:ts = #[t]:=by cases ts;simp at B;rw[B]
   subst e1;subst e2;refine zq3 V Z G ?_
   unfold z1p;split at h
   .rename_i e _ _ _ _ hte
    rw[O.ti hte];simp only;split at h
    .rename_i te K
     rw[O.ti K];simp only;split at h
     .rename_i z hz
      rw[hz];simp only;rw[zaf,Bool.and_eq_true,beq_iff] at h;obtain⟨⟨C,h2⟩,h⟩:=h;refine⟨C,h2,?_⟩
      split at h
      .rename_i hds
       cases h;rw[hds];exact H.put Y _
      .rename_i id sz lo n hds
       rw[hds];simp only;split at h
       .rename_i T sz' rows F
        rw[zaf] at h;simp only[Bool.and_eq_true,beq_iff,zdf] at h;obtain⟨⟨⟨I,N⟩,h5⟩,h⟩:=h;cases h;rw[F];exact⟨I,N,h5,(H.set id _).put Y _⟩
       .cases h
      .cases h
     .cases h
    .cases h
   .cases h
  .cases h
 .rename_i t x Z
  split at h
  .rename_i s B S
   cases h;refine zq5 V Z G ?_
   unfold z1r;rw[O.ti B,S];simp only;rw[H.next];exact(H.new _).put Y _
  .cases h
 .rename_i x Z
  split at h
  .rename_i id S
   split at h
   .rename_i s pos F
    cases h;refine zt5 V Z G ?_
    unfold yf6;rw[S];simp only;rw[F];simp only;exact(H.set id _).put Y _
   .cases h
  .cases h
 .rename_i s t x Z
  split at h
  .rename_i y hy
   cases h;rw[<-Z] at hy;exact Goes.zft V G (zfb V o (zu4 O hy (H.put Y y)))
  .split at h
   .rename_i e _ _ _ _ _ _ _ _ hs B
    split at h
    .rename_i rows he hsrc
     split at h
     .rename_i bs hbs
      cases h;refine Goes.zft V G (zki V Z ?_)
      unfold zbs;rw[O.ti hs,O.ti B];simp only;rw[O.ti he];simp only;rw[<-H.next] at hsrc;rw[zzl st st.next _ hsrc];simp only;rw[hbs];exact H.put Y _
     .cases h
    .cases h
   .rename_i e _ _ _ _ hs B
    split at h
    .rename_i b he S
     obtain⟨hb,h⟩:=zaf.1 h;cases h;refine Goes.zft V G (zki V Z ?_)
     unfold zbs;rw[O.ti hs,O.ti B];simp only;rw[O.ti he,S];simp only;exact⟨Nat.le_of_ble_eq_true hb,H.put Y _⟩
    .cases h
   .cases h
 .rename_i f args ts Z
  exact zzk Q H V Z Y G h
 .split at h
  .rename_i s hs
   cases h;exact Goes.zft V G (zfb V o (zu4 O hs (H.put Y s)))
  .cases h
end
end Go.V

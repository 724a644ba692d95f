/- A program logic of my own over the kit: part X4. It needs no conditions. -/
import Derived.Test.YtgglheknmlfghaaGreatV31
set_option linter.unusedVariables false
set_option linter.unusedSimpArgs false
set_option linter.unusedSectionVars false
namespace Go.V
variable [Dr] [Ov]
open Go.RowKit
inductive Tr where
 | leaf
 | node (v:Option Sym) (l r:Tr)
 deriving Inhabited
def Tr.get:Nat→Tr→Nat→Option Sym
 | 0,_,_=>none
 | _+1,.leaf,_=>none
 | k+1,.node v l r,t=>match t with
  | 0=>v
  | u+1=>match Nat.beq (u%2) 0 with
   | true=>Tr.get k l (u/2)
   | false=>Tr.get k r (u/2)
def Tr.put:Nat→Tr→Nat→Sym→Tr
 | 0,x,_,_=>x
 | k+1,x,t,s=>match x with
  | .leaf=>match t with
   | 0=>.node (some s) .leaf .leaf
   | u+1=>match Nat.beq (u%2) 0 with
    | true=>.node none (Tr.put k .leaf (u/2) s) .leaf
    | false=>.node none .leaf (Tr.put k .leaf (u/2) s)
  | .node v l r=>match t with
   | 0=>.node (some s) l r
   | u+1=>match Nat.beq (u%2) 0 with
    | true=>.node v (Tr.put k l (u/2) s) r
    | false=>.node v l (Tr.put k r (u/2) s)
def Tr.map (f:Sym→Sym):Tr→Tr
 | .leaf=>.leaf
 | .node v l r=>.node (v.map f) (Tr.map f l) (Tr.map f r)
def zik (i:Nat) (l:List Nat):List Nat:=match l.any (Nat.beq i) with
 | true=>l
 | false=>l++[i]
structure XS where
 n:Nat
 next:Nat
 slots:Tr
 own:List (Nat×Obj')
 base:Nat
 moved:List Nat
 deriving Inhabited
def dep:Nat:=12
def XS.get (xs:XS) (t:Nat):Option Sym:=xs.slots.get dep t
def zjf {α:Type}:List (Nat×α)→Nat→Option α
 | [],_=>none
 | (k,v)::r,t=>match Nat.beq k t with
  | true=>some v
  | false=>zjf r t
def XS.look (xs:XS) (id:Nat):Option Obj':=zjf xs.own id
def XS.val (xs:XS):Operand→Sym
 | .tmp t=>match xs.get t with
  | some s=>s
  | none=>.junk
 | .const v=>ofConst v
 | .func f=>.fn f []
 | .global g=>match zaa GT g with
  | some l=>.d (.ptr l)
  | none=>.junk
def XS.put (xs:XS) (dst:Option Tmp) (s:Sym):XS:=
 match dst with
 | some t=>{xs with slots:=xs.slots.put dep t s}
 | none=>xs
def XS.new (xs:XS) (o:Obj'):XS:={xs with next:=xs.next+1,own:=(xs.next,o)::xs.own}
def xset (id:Nat) (v:Obj'):List (Nat×Obj')→List (Nat×Obj')
 | []=>[(id,v)]
 | (k,u)::r=>match Nat.beq k id with
  | true=>(k,v)::r
  | false=>(k,u)::xset id v r
def XS.set (xs:XS) (id:Nat) (o:Obj'):XS:={xs with own:=xset id o xs.own}
def XS.frz (xs:XS) (id:Nat):XS:=
 match xs.look id with
 | some (.arr _ _ rows)=>{xs with slots:=xs.slots.map (thaw id (.sl rows)),own:=zch id (.sl rows) xs.own}
 | some (.map _ rows)=>{xs with slots:=xs.slots.map (thaw id (.mp rows)),own:=zch id (.mp rows) xs.own}
 | _=>xs
def XS.frzs (xs:XS):List Nat→XS
 | []=>xs
 | id::r=>(xs.frz id).frzs r
def XS.renew (xs:XS) (id:Nat) (o:Obj'):XS:={xs with moved:=(match Nat.blt id xs.base with | true=>zik id xs.moved | false=>xs.moved),slots:=xs.slots.map (za9 id),own:=zca id o xs.own}
structure XR where
 s:Sym
 nx:Nat
 own:List (Nat×Obj')
 mv:List Nat
structure XG where
 ti:Nat→Option TI
 zf:Nat→Bool
 ek:Nat→Option (List TK)
 fn:Nat→Option (Nat×Code×List ResultVar)
 sc:Nat→Bool
 kn:Nat→Option (List D→Option D)
 kc:Nat→Option (List Sym→List (Nat×Obj')→Nat→Option XR):=fun _=>none
 mf:Nat→Bool:=fun _=>false
def zau {α:Type} (b:Bool) (x:Option α):Option α:=match b with
 | true=>x
 | false=>none
def z08 (ti:TI) (l:List D):Option Sym:=
 match ti.agg with
 | true=>zau (Nat.ble ti.size l.length) (some (.d (.agg (l.take ti.size))))
 | false=>match l with
  | x::_=>some (.d x)
  | []=>none
def z81 (ti:TI) (l:List Sym):Option Sym:=
 match ti.agg with
 | true=>zau (Nat.ble ti.size l.length) (some (zkz (l.take ti.size)))
 | false=>match l with
  | x::_=>some x
  | []=>none
def ydr (look:Nat→Option Obj') (ti:TI):Sym→Option Sym
 | .d (.ptr l)=>z08 ti l
 | .bp id off=>match look id with
  | some (.box _ cells)=>z81 ti (cells.drop off)
  | _=>none
 | .ap id sz i off=>match look id with
  | some (.arr _ sz' rows)=>zau (Nat.beq sz sz'&&Nat.blt i rows.length) (z08 ti ((rows.getD i []).drop off))
  | _=>none
 | _=>none
def zml (kd:TK) (x:Sym) (f:Nat):Option Sym:=
 match kd with
 | .struct fs=>match fs[f]?,x with
  | some (off,sz,_),.d (.ptr l)=>zau (!Nat.beq sz 0) (some (.d (.ptr (l.drop off))))
  | some (off,sz,_),.bp id o=>zau (!Nat.beq sz 0) (some (.bp id (o+off)))
  | some (off,sz,_),.ap id s i o=>zau (!Nat.beq sz 0) (some (.ap id s i (o+off)))
  | _,_=>none
 | _=>none
def z88 (kd:TK) (x:Sym) (f:Nat):Option Sym:=
 match kd with
 | .struct fs=>match fs[f]?,x with
  | some (off,sz,agg),.d (.agg l)=>match agg with
   | true=>zau (Nat.ble (off+sz) l.length) (some (.d (.agg ((l.drop off).take sz))))
   | false=>match l.drop off with
    | x::_=>some (.d x)
    | []=>none
  | some (off,sz,agg),.agg l=>match agg with
   | true=>zau (Nat.ble (off+sz) l.length) (some (zkz ((l.drop off).take sz)))
   | false=>match l.drop off with
    | x::_=>some x
    | []=>none
  | _,_=>none
 | _=>none
def zmm (look:Nat→Option Obj') (esz:Nat):Sym→Sym→Option Sym
 | .d (.sl l),.d (.int _ n)=>zau (decide (0≤n)&&decide (n<l.length)&&Nat.beq (l.getD n.toNat []).length esz) (some (.d (.ptr (l.getD n.toNat []))))
 | .ar id,.d (.int _ n)=>match look id with
  | some (.arr _ sz rows)=>zau (decide (0≤n)&&decide (n<rows.length)&&Nat.beq sz esz) (some (.ap id sz n.toNat 0))
  | _=>none
 | _,_=>none
def z9a:Sym→Sym→Option Sym
 | .d (.str s),.d (.int _ n)=>zau (decide (0≤n)&&decide (n<s.size)) (some (.d (.int .u8 (byteAt s n))))
 | _,_=>none
def zp3 (kd:IntKind) (n:Int):Option Sym:=
 match kd with
 | .i64=>zau (decide (-9223372036854775808≤n)&&decide (n≤9223372036854775807)) (some (.d (.int .i64 n)))
 | kd=>some (.d (.int kd (kd.wrap n)))
def zzd (kd:IntKind) (a b:Int):BinOp→Option Sym
 | .add=>zp3 kd (a+b)
 | .sub=>zp3 kd (a-b)
 | .mul=>zp3 kd (a*b)
 | .quo=>zau (!decide (b=0)) (zp3 kd (a.tdiv b))
 | .rem=>zau (!decide (b=0)) (some (.d (.int kd (a.tmod b))))
 | .and=>some (.d (.int kd (zhp .and kd a b)))
 | .or=>some (.d (.int kd (zhp .or kd a b)))
 | .xor=>some (.d (.int kd (zhp .xor kd a b)))
 | .andNot=>some (.d (.int kd (zhp .andNot kd a b)))
 | .eql=>some (.d (.bool (decide (a=b))))
 | .neq=>some (.d (.bool (!decide (a=b))))
 | .lss=>some (.d (.bool (decide (a<b))))
 | .leq=>some (.d (.bool (decide (a≤b))))
 | .gtr=>some (.d (.bool (decide (b<a))))
 | .geq=>some (.d (.bool (decide (b≤a))))
 | _=>none
def bl (a:ByteArray):List UInt8:=a.data.toList
def zze (a b:ByteArray):BinOp→Option Sym
 | .add=>zau (Nat.ble (a.size+b.size) 9223372036854775807) (some (.d (.str (a++b))))
 | .eql=>some (.d (.bool (bl a==bl b)))
 | .neq=>some (.d (.bool !(bl a==bl b)))
 | .lss=>some (.d (.bool (Op.bytesLess (bl a) (bl b))))
 | .leq=>some (.d (.bool (Op.bytesLess (bl a) (bl b) || bl a==bl b)))
 | .gtr=>some (.d (.bool (!(Op.bytesLess (bl a) (bl b) || bl a==bl b))))
 | .geq=>some (.d (.bool (!Op.bytesLess (bl a) (bl b))))
 | _=>none
def zt7 (a b:Bool):BinOp→Option Sym
 | .eql=>some (.d (.bool (a==b)))
 | .neq=>some (.d (.bool (!(a==b))))
 | _=>none
def xbin (op:BinOp):Sym→Sym→Option Sym
 | .d (.int ka a),.d (.int kb b)=>match op with
  | .shl=>zau (decide (0≤b)) (some (.d (.int ka (zjj .shl ka a b))))
  | .shr=>zau (decide (0≤b)) (some (.d (.int ka (zjj .shr ka a b))))
  | op=>zau (decide (ka=kb)) (zzd ka a b op)
 | .d (.str a),.d (.str b)=>zze a b op
 | .d (.bool a),.d (.bool b)=>zt7 a b op
 | .d (.sl (_::_)),.nils=>match op with
  | .eql=>some (.d (.bool false))
  | .neq=>some (.d (.bool true))
  | _=>none
 | .nils,.nils=>match op with
  | .eql=>some (.d (.bool true))
  | .neq=>some (.d (.bool false))
  | _=>none
 | _,_=>none
def zzf (Γ:XG) (op:BinOp) (t:Nat):Sym→Sym→Option Sym
 | .d (.agg a),.d (.agg b)=>match Γ.ek t with
  | some ks=>match zbk ks a b with
   | some r=>match op with
    | .eql=>some (.d (.bool r))
    | .neq=>some (.d (.bool (!r)))
    | _=>none
   | none=>none
  | none=>none
 | _,_=>none
def xun (op:UnOp):Sym→Option Sym
 | .d (.bool b)=>match op with
  | .not=>some (.d (.bool !b))
  | _=>none
 | .d (.int kd n)=>match op with
  | .neg=>zp3 kd (0-n)
  | _=>none
 | _=>none
def zt8:TK→Sym→Option Sym
 | .int kd,.d (.int _ n)=>some (.d (.int kd (kd.wrap n)))
 | .str,.d (.str s)=>some (.d (.str s))
 | _,_=>none
def zt9:Sym→Nat→Option Sym
 | .d (.tup l),i=>match l[i]? with
  | some x=>some (.d x)
  | none=>none
 | .tup l,i=>l[i]?
 | _,_=>none
def xlen (look:Nat→Option Obj'):TK→Sym→Option Sym
 | .slice _,.d (.sl l)=>some (.d (.int .i64 l.length))
 | .str,.d (.str s)=>some (.d (.int .i64 s.size))
 | .slice _,.nils=>some (.d (.int .i64 0))
 | .slice _,.ar id=>match look id with
  | some (.arr _ _ rows)=>some (.d (.int .i64 rows.length))
  | _=>none
 | .slice _,.aS _ _ _ n=>some (.d (.int .i64 n))
 | _,_=>none
def z9b (Γ:XG) (look:Nat→Option Obj'):TK→Sym→Option Sym→Option Sym→Option Sym
 | .slice e,.d (.sl l),lo,hi=>match Γ.ti e,bnd 0 lo,bnd l.length hi with
  | some te,some o,some h=>zau (decide (0≤o)&&decide (o≤h)&&decide (h≤l.length)&&l.all (fun r=>Nat.beq r.length te.size)) (some (.d (.sl ((l.take h.toNat).drop o.toNat))))
  | _,_,_=>none
 | .slice e,.ar id,lo,hi=>match look id,Γ.ti e with
  | some (.arr _ sz rows),some te=>match bnd 0 lo,bnd rows.length hi with
   | some o,some h=>zau (decide (0≤o)&&decide (o≤h)&&decide (h≤rows.length)&&Nat.beq sz te.size) (some (match decide (o=h) with | true=>.d (.sl []) | false=>.aS id sz o.toNat (h.toNat-o.toNat)))
   | _,_=>none
  | _,_=>none
 | .str,.d (.str s),lo,hi=>match bnd 0 lo,bnd s.size hi with
  | some o,some h=>zau (decide (0≤o)&&decide (o≤h)&&decide (h≤s.size)) (some (.d (.str (s.extract o.toNat h.toNat))))
  | _,_=>none
 | _,_,_,_=>none
def xnil:Sym→Option Sym
 | .d (.ptr l)=>some (.d (.ptr l))
 | .bp id off=>some (.bp id off)
 | .ap id s i off=>some (.ap id s i off)
 | .fn f l=>some (.fn f l)
 | .d (.fn f l)=>some (.d (.fn f l))
 | _=>none
def yds (ti:TI):Option Sym:=
 match ti.agg with
 | true=>zau (ti.zero.all (·.oneCell')) (some (zkz (ti.zero.map ofConst)))
 | false=>match ti.zero with
  | [v]=>some (ofConst v)
  | _=>none
def zzg (look:Nat→Option Obj') (kk:TK) (te:TI) (commaOk:Bool) (m x:Sym):Option Sym:=
 match zh2 look m,x with
 | some rows,.d x=>zau (zfo kk x) (match znm x rows with
  | some (some v)=>some (match commaOk with | true=>.d (.tup [v,.bool true]) | false=>.d v)
  | some none=>match yds te with
   | some z=>some (match commaOk with | true=>.tup [z,.d (.bool false)] | false=>z)
   | none=>none
  | none=>none)
 | _,_=>none
def z9c (ti:TI) (parts:List (Nat×Sym)):Option Sym:=
 match ti.kind with
 | .struct fs=>zau (ti.zero.all (·.oneCell')) (match zyr fs (ti.zero.map ofConst) parts with
  | some out=>some (zpd out)
  | none=>none)
 | _=>none
def xop (Γ:XG) (look:Nat→Option Obj') (ρ:Operand→Sym) (op:Op):Option Sym:=
 match op with
 | .move x=>some (ρ x)
 | .assign x=>some (ρ x)
 | .pick c a b=>match ρ c with
  | .d (.bool true)=>some (ρ a)
  | .d (.bool false)=>some (ρ b)
  | _=>none
 | .load t x=>match Γ.ti t with
  | some ti=>ydr look ti (ρ x)
  | none=>none
 | .fieldAddr t x f=>match Γ.ti t with
  | some ti=>zml ti.kind (ρ x) f
  | none=>none
 | .field t x f=>match Γ.ti t with
  | some ti=>z88 ti.kind (ρ x) f
  | none=>none
 | .indexAddr t x i=>match Γ.ti t with
  | some ⟨.slice e,_,_,_,_⟩=>match Γ.ti e with
   | some te=>zmm look te.size (ρ x) (ρ i)
   | none=>none
  | _=>none
 | .index t x i=>match Γ.ti t with
  | some ⟨.str,_,_,_,_⟩=>z9a (ρ x) (ρ i)
  | _=>none
 | .slice t x lo hi none=>match Γ.ti t with
  | some ti=>z9b Γ look ti.kind (ρ x) (lo.map ρ) (hi.map ρ)
  | none=>none
 | .binOp op t x y _=>match Γ.ti t with
  | some ti=>match ρ x,ρ y with
   | .d (.agg a),.d (.agg b)=>zzf Γ op t (.d (.agg a)) (.d (.agg b))
   | a,b=>zau (zjy ti.kind a) (xbin op a b)
  | none=>none
 | .unOp op _ x=>xun op (ρ x)
 | .convert s t x=>match Γ.ti s,Γ.ti t with
  | some _,some ti=>zt8 ti.kind (ρ x)
  | _,_=>none
 | .extract t i=>zt9 (ρ t) i
 | .lookup t m x c=>match Γ.ti t with
  | some ⟨.map kt et,_,_,_,_⟩=>match Γ.ti kt,Γ.ti et with
   | some tk,some te=>zau (Γ.zf et) (zzg look tk.kind te c (ρ m) (ρ x))
   | _,_=>none
  | _=>none
 | .nilCheck x=>xnil (ρ x)
 | .call {callee:=.builtin .len,args:=a,argTypes:=ts}=>match a.toList,ts.toList with
  | [x],[t]=>match Γ.ti t with
   | some ti=>xlen look ti.kind (ρ x)
   | none=>none
  | _,_=>none
 | .call {callee:=.builtin .max,args:=a,argTypes:=_}=>match a.toList.map ρ with
  | [.d (.int ka a),.d (.int _ b)]=>some (.d (.int ka (match decide (b>a) with | true=>b | false=>a)))
  | _=>none
 | .call {callee:=.builtin .min,args:=a,argTypes:=_}=>match a.toList.map ρ with
  | [.d (.int ka a),.d (.int _ b)]=>some (.d (.int ka (match decide (b<a) with | true=>b | false=>a)))
  | _=>none
 | .build t parts=>match Γ.ti t with
  | some ti=>z9c ti (parts.toList.map fun (i,x)=>(i,ρ x))
  | none=>none
 | .buildSlice t n parts=>match Γ.ti t with
  | some ⟨.slice e,_,_,_,_⟩=>match Γ.ti e,inOrder 0 (parts.toList.map fun (i,x)=>(i,ρ x)) with
   | some te,some xs=>match rowsOf te.size xs with
    | some rows=>zau (Nat.beq xs.length n&&Nat.blt 0 te.size&&Nat.ble (n*te.size) 16777216) (some (.d (.sl rows)))
    | none=>none
   | _,_=>none
  | _=>none
 | .makeFunc (.func f) first captured=>match first.toList with
  | []=>some (.fn f (captured.toList.map ρ))
  | _=>none
 | _=>none
abbrev Caller:=Nat→List Sym→List (Nat×Obj')→Nat→Option XR
mutual
def zln:Sym→List Nat→List Nat
 | .bp i _,l=>zik i l
 | .ar i,l=>zik i l
 | .ap i _ _ _,l=>zik i l
 | .aS i _ _ _,l=>zik i l
 | .av i _ _ _,l=>zik i l
 | .yd i,l=>zik i l
 | .mp i,l=>zik i l
 | .tup s,l=>zd2 s l
 | .agg s,l=>zd2 s l
 | .fn _ s,l=>zd2 s l
 | _,l=>l
def zd2:List Sym→List Nat→List Nat
 | [],l=>l
 | s::r,l=>zd2 r (zln s l)
end
def reach (look:Nat→Option Obj'):Nat→List Nat→List Nat→List Nat
 | 0,_,acc=>acc
 | _+1,[],acc=>acc
 | k+1,i::r,acc=>match look i with
  | some (.box _ cells)=>
   let acc':=zd2 cells acc
   reach look k (r++acc'.drop acc.length) acc'
  | some (.raw _ cells)=>
   let acc':=zd2 cells acc
   reach look k (r++acc'.drop acc.length) acc'
  | _=>reach look k r acc
mutual
def ye0:Sym→List Nat
 | .ar i=>[i]
 | .agg l=>zzh l
 | _=>[]
def zzh:List Sym→List Nat
 | []=>[]
 | s::r=>ye0 s++zzh r
end
mutual
def ye1:Sym→List Nat→List Nat
 | .bp i _,l=>zik i l
 | .ap i _ _ _,l=>zik i l
 | .aS i _ _ _,l=>zik i l
 | .av i _ _ _,l=>zik i l
 | .yd i,l=>zik i l
 | .mp i,l=>zik i l
 | .tup s,l=>zil s l
 | .agg s,l=>zil s l
 | .fn _ s,l=>zd2 s l
 | _,l=>l
def zil:List Sym→List Nat→List Nat
 | [],l=>l
 | s::r,l=>zil r (ye1 s l)
end
def zbs (ids:List Nat) (i:Nat):Nat:=match ids with
 | []=>i
 | j::r=>match Nat.beq i j with
  | true=>0
  | false=>Nat.succ (zbs r i)
mutual
def innB (ids:List Nat):Sym→Bool
 | .bp i _=>ids.any (Nat.beq i)
 | .ar i=>ids.any (Nat.beq i)
 | .ap i _ _ _=>ids.any (Nat.beq i)
 | .aS i _ _ _=>ids.any (Nat.beq i)
 | .av i _ _ _=>ids.any (Nat.beq i)
 | .yd i=>ids.any (Nat.beq i)
 | .mp i=>ids.any (Nat.beq i)
 | .tup l=>zke ids l
 | .agg l=>zke ids l
 | .fn _ l=>zke ids l
 | _=>true
def zke (ids:List Nat):List Sym→Bool
 | []=>true
 | s::r=>innB ids s&&zke ids r
end
def innO (ids:List Nat):Obj'→Bool
 | .box _ cells=>zke ids cells
 | .raw _ cells=>zke ids cells
 | _=>true
def nodupB:List Nat→Bool
 | []=>true
 | i::r=>!r.any (Nat.beq i)&&nodupB r
def zw8 (look:Nat→Option Obj') (ids:List Nat):Nat→List Nat→Option (List (Nat×Obj'))
 | _,[]=>some []
 | k,i::r=>match look i with
  | some o=>match innO ids o with
   | true=>match zw8 look ids (k+1) r with
    | some l=>some ((k,zcd (zbs ids) o)::l)
    | none=>none
   | false=>none
  | none=>none
def XS.after (xs:XS) (ids:List Nat) (nx:Nat) (own':List (Nat×Obj')) (mv:List Nat):XS:=
 {xs with next:=xs.next+(nx-ids.length),slots:=(match mv with | []=>xs.slots | _=>xs.slots.map (zan (mv.map (rho' ids xs.next)))),own:=zgr (rho' ids xs.next) own'++zdb ids (mv.map (rho' ids xs.next)) xs.own,moved:=mv.map (rho' ids xs.next)++xs.moved}
def xmut (call:Caller) (xs:XS) (g:Nat) (aS:List Sym) (dst:Option Tmp):Option XS:=
 let roots:=zd2 aS []
 let ids:=reach xs.look 1000 roots roots
 match zau (nodupB ids&&zke ids aS) (zw8 xs.look ids 0 ids) with
 | some own0=>match call g (rens (zbs ids) aS) own0 ids.length with
  | some r=>some ((xs.after ids r.nx r.own r.mv).put dst (ren (rho' ids xs.next) r.s))
  | none=>none
 | none=>none
def ybr:List Sym→Bool
 | []=>true
 | .bp _ _::_=>false
 | .ap _ _ _ _::_=>false
 | .aS _ _ _ _::_=>false
 | .yd _::_=>false
 | .mp _::_=>false
 | .tup l::r=>(zil l []).isEmpty&&ybr r
 | .agg l::r=>(zil l []).isEmpty&&ybr r
 | _::r=>ybr r
def orElse' {α:Type} (x y:Option α):Option α:=match x with
 | some r=>some r
 | none=>y
def zzi (call:Caller) (xs:XS) (g:Nat) (aS:List Sym) (dst:Option Tmp):Option XS:=
 match (zil aS []).isEmpty with
 | true=>match zh0 xs.look aS with
  | some (ds,_)=>match call g (ds.map .d) [] 0 with
   | some ⟨.d r,_,_,_⟩=>zau r.scalar (some (xs.put dst (.d r)))
   | _=>none
  | none=>none
 | false=>none
def zp4 (call:Caller) (xs:XS) (f:Operand) (args:List Operand) (dst:Option Tmp) (L:List Nat):Option XS:=
 match zbb ((xs.frzs L).val f) with
 | some (g',caps')=>xmut call (xs.frzs L) g' (args.map (xs.frzs L).val++caps') dst
 | none=>none
def zzj (Γ:XG) (call:Caller) (xs:XS) (f:Operand) (args:List Operand) (dst:Option Tmp):Option XS:=
 match zbb (xs.val f) with
 | some (g,caps)=>
  let aS:=args.map xs.val++caps
  match zzh aS with
  | []=>xmut call xs g aS dst
  | ars=>
   let pr:=reach xs.look 1000 (zil aS []) (zil aS [])
   let L:=ars.filter fun i=>!pr.any (Nat.beq i)
   match Γ.sc g&&ybr aS with
   | true=>orElse' (zzi call xs g aS dst) (orElse' (xmut call xs g aS dst) (zp4 call xs f args dst L))
   | false=>match Γ.mf g with
    | true=>orElse' (xmut call xs g aS dst) (zp4 call xs f args dst L)
    | false=>orElse' (zp4 call xs f args dst L) (xmut call xs g aS dst)
 | none=>none
def xsrc (look:Nat→Option Obj') (id:Nat):Sym→Option (List (List D))
 | .d (.sl l)=>some l
 | .nils=>some []
 | .ar j=>match Nat.beq j id with
  | true=>none
  | false=>match look j with
   | some (.arr _ _ rows)=>some rows
   | _=>none
 | .aS j sz lo n=>match Nat.beq j id with
  | true=>none
  | false=>match look j with
   | some (.arr _ sz' rows)=>zau (Nat.beq sz sz'&&Nat.ble (lo+n) rows.length) (some ((rows.drop lo).take n))
   | _=>none
 | _=>none
def xdst (dst:Option Tmp) (n:Nat):Bool:=match dst with
 | some t=>Nat.blt t n&&Nat.blt t 4095
 | none=>true
def zw9 (Γ:XG) (call:Caller) (o:Oper) (xs:XS):Option XS:=
 zau (xdst o.dst xs.n) <|
 match o.op with
 | .box T x=>match za8 (xs.val x) with
  | some l=>some ((xs.new (.box T l)).put o.dst (.bp xs.next 0))
  | none=>none
 | .alloc T=>match Γ.ti T with
  | some ti=>zau (ti.zero.all (·.oneCell')) (some ((xs.new (.box T (ti.zero.map ofConst))).put o.dst (.bp xs.next 0)))
  | none=>none
 | .assign (.const (.slice none 0 0))=>match Γ.ti o.type with
  | some ⟨.slice e,_,_,_,_⟩=>match Γ.ti e with
   | some te=>some ((xs.new (.arr e te.size [])).put o.dst (.ar xs.next))
   | none=>none
  | _=>none
 | .buildSlice t n parts=>match Γ.ti t with
  | some ⟨.slice e,_,_,_,_⟩=>match Γ.ti e with
   | some te=>match inOrder 0 parts.toList with
    | some l=>
     let xs':=xs.frzs (zfq (l.map xs.val))
     match rowsOf te.size (l.map xs'.val) with
     | some rows=>zau (Nat.beq l.length n&&Nat.blt 0 te.size&&Nat.ble (n*te.size) 16777216) (some ((xs'.new (.arr e te.size rows)).put o.dst (.ar xs'.next)))
     | none=>none
    | none=>none
   | none=>none
  | _=>none
 | .store t ad x=>match o.dst,Γ.ti t with
  | none,some ti=>match xs.val ad with
   | .bp id off=>match xs.look id with
    | some (.box T cells)=>match za8 (xs.val x) with
     | some l=>zau (Nat.beq l.length ti.size&&Nat.ble (off+l.length) cells.length) (some (xs.set id (.box T (splice cells off l))))
     | none=>none
    | _=>none
   | .ap id sz i off=>match xs.look id with
    | some (.arr T sz' rows)=>match za8 (xs.val x) with
     | some l=>match allD l with
      | some ds=>zau (Nat.beq sz sz'&&Nat.blt i rows.length&&Nat.beq ds.length ti.size&&Nat.ble (off+ds.length) (rows.getD i []).length) (some (xs.set id (.arr T sz (rows.set i (splice (rows.getD i []) off ds)))))
      | none=>none
     | none=>none
    | _=>none
   | _=>none
  | _,_=>none
 | .makeSlice t l c=>match Γ.ti t,xs.val l,xs.val c with
  | some ⟨.slice e,_,_,_,_⟩,.d (.int _ l),.d (.int _ c)=>match Γ.ti e with
   | some te=>match allD (te.zero.map ofConst) with
    | some x=>zau (Nat.blt 0 te.size&&Nat.beq te.zero.length te.size&&te.zero.all (·.oneCell')&&decide (0≤l)&&decide (l≤c)&&decide ((te.bytes:Int)*c≤281474976710656)&&decide (c≤(maxLen:Int))) (some ((xs.new (.arr e te.size (List.replicate l.toNat x))).put o.dst (.ar xs.next)))
    | none=>none
   | none=>none
  | _,_,_=>none
 | .makeMap t none=>some ((xs.new (.map t [])).put o.dst (.mp xs.next))
 | .mapUpdate t m x v=>match o.dst,xs.val m,xs.val x,unD (xs.val v),Γ.ti t with
  | none,.mp id,.d x,some v,some ⟨.map kt _,_,_,_,_⟩=>match xs.look id,Γ.ti kt with
   | some (.map T rows),some tk=>match putD x v rows with
    | some rows'=>zau (zfo tk.kind x) (some (xs.set id (.map T rows')))
    | none=>none
   | _,_=>none
  | _,_,_,_,_=>none
 | .call {callee:=.builtin .append,args:=xs',argTypes:=ts}=>match xs'.toList,ts.toList with
  | [s,x],[t,t']=>match Γ.ti t with
   | some ⟨.slice e,_,_,_,_⟩=>match Γ.ti e with
    | some te=>match xs.val s with
     | .ar id=>match xs.look id,xsrc xs.look id (xs.val x) with
      | some (.arr T sz rows),some l=>zau (Nat.beq t' t&&Nat.blt 0 te.size&&Nat.beq te.zero.length te.size&&te.zero.all (·.oneCell')&&Nat.beq T e&&Nat.beq sz te.size&&l.all (fun r=>Nat.beq r.length te.size)&&Nat.ble ((rows.length+l.length)*te.bytes) 140737488355328&&Nat.ble (rows.length+l.length) maxLen)
        (some ((xs.renew id (.arr e te.size (rows++l))).put o.dst (.ar id)))
      | _,_=>none
     | .nils=>match xsrc (xs.new (.arr e te.size [])).look xs.next (xs.val x) with
      | some l=>zau (Nat.beq t' t&&Nat.blt 0 te.size&&Nat.beq te.zero.length te.size&&te.zero.all (·.oneCell')&&l.all (fun r=>Nat.beq r.length te.size)&&Nat.ble (l.length*te.bytes) 140737488355328&&Nat.ble l.length maxLen)
        (some (((xs.new (.arr e te.size [])).renew xs.next (.arr e te.size l)).put o.dst (.ar xs.next)))
      | none=>none
     | _=>none
    | none=>none
   | _=>none
  | _,_=>none
 | .call {callee:=.builtin .copy,args:=xs',argTypes:=ts}=>match xs'.toList,ts.toList with
  | [d,s],[t,_]=>match Γ.ti t with
   | some ⟨.slice e,_,_,_,_⟩=>match Γ.ti e,xsrc xs.look xs.next (xs.val s) with
    | some te,some l=>zau (Nat.blt 0 te.size&&l.all (fun r=>Nat.beq r.length te.size)) (match xs.val d with
     | .d (.sl [])=>some (xs.put o.dst (.d (.int .i64 0)))
     | .aS id sz lo n=>match xs.look id with
      | some (.arr T sz' rows)=>zau (Nat.beq sz te.size&&Nat.beq sz' te.size&&Nat.ble (lo+n) rows.length) (some ((xs.set id (.arr T sz' (splice rows lo (l.take n)))).put o.dst (.d (.int .i64 ((l.take n).length:Nat)))))
      | _=>none
     | .ar id=>match xs.look id with
      | some (.arr T sz' rows)=>zau (Nat.beq sz' te.size) (some ((xs.set id (.arr T sz' (splice rows 0 (l.take rows.length)))).put o.dst (.d (.int .i64 ((l.take rows.length).length:Nat)))))
      | _=>none
     | _=>none)
    | _,_=>none
   | _=>none
  | _,_=>none
 | .call {callee:=.builtin .clear,args:=xs',argTypes:=ts}=>match xs'.toList,ts.toList with
  | [x],[t]=>match Γ.ti t with
   | some ⟨.slice e,_,_,_,_⟩=>match Γ.ti e with
    | some te=>match allD (te.zero.map ofConst) with
     | some z=>zau (te.zero.all (·.oneCell')&&Nat.beq te.zero.length te.size) (match xs.val x with
      | .d (.sl [])=>some (xs.put o.dst (.d (.tup [])))
      | .aS id sz lo n=>match xs.look id with
       | some (.arr T sz' rows)=>zau (Nat.beq sz te.size&&Nat.beq sz' te.size&&Nat.ble (lo+n) rows.length) (some ((xs.set id (.arr T sz' (splice rows lo (List.replicate n z)))).put o.dst (.d (.tup []))))
       | _=>none
      | _=>none)
     | none=>none
    | none=>none
   | _=>none
  | _,_=>none
 | .range t x=>match Γ.ti t,xs.val x with
  | some ⟨.str,_,_,_,_⟩,.d (.str s)=>some ((xs.new (.raw (.it s 0) [])).put o.dst (.bp xs.next 0))
  | _,_=>none
 | .next x true=>match xs.val x with
  | .bp id 0=>match xs.look id with
   | some (.raw (.it s pos) [])=>match z0t s pos with
    | (pos',y)=>some ((xs.set id (.raw (.it s pos') [])).put o.dst (.d y))
   | _=>none
  | _=>none
 | .convert s t x=>match xop Γ xs.look xs.val (.convert s t x) with
  | some y=>some (xs.put o.dst y)
  | none=>match Γ.ti s,Γ.ti t with
   | some ⟨.slice e,_,_,_,_⟩,some ⟨.str,_,_,_,_⟩=>match Γ.ti e,xsrc xs.look xs.next (xs.val x) with
    | some ⟨.int .u8,_,_,_,_⟩,some rows=>match bytesOf rows with
     | some bs=>some (xs.put o.dst (.d (.str ⟨bs.toArray⟩)))
     | none=>none
    | _,_=>none
   | some ⟨.str,_,_,_,_⟩,some ⟨.slice e,_,_,_,_⟩=>match Γ.ti e,xs.val x with
    | some ⟨.int .u8,_,_,_,_⟩,.d (.str b)=>zau (Nat.ble b.size maxLen) (some (xs.put o.dst (.d (.sl (zb6 b)))))
    | _,_=>none
   | _,_=>none
 | .call {callee:=.value f,args:=xs',argTypes:=_}=>zzj Γ call xs f xs'.toList o.dst
 | op=>match xop Γ xs.look xs.val op with
  | some s=>some (xs.put o.dst s)
  | none=>none
abbrev Runner:=Code→XS→Option (DE×XS)
def z09:List Nat→List Sym→Tr→Tr
 | p::ps,s::ss,t=>z09 ps ss (t.put dep p s)
 | _,_,t=>t
def zua:Nat→List Sym→Tr→Tr
 | _,[],t=>t
 | k,s::r,t=>zua (k+1) r (t.put dep k s)
def zxa (n:Nat) (ids:List Nat) (x:Nat×Obj'):Bool:=Nat.blt x.1 n || ids.any (Nat.beq x.1)
def zcx:DE→Option Code
 | .normal=>none
 | .ret=>some .ret
 | .exit i=>some (.exit i)
def zff:DE→LoopState
 | .normal=>.ready
 | _=>.done
def zey:DE→Bool
 | .normal=>true
 | _=>false
def zxb (run:Runner) (id:Nat) (args:List Sym) (own:List (Nat×Obj')) (n:Nat):Option XR:=
 match zjf own id with
 | some (.raw (.lp ps a b .ready none) cells)=>match zau (Nat.beq args.length ps.size&&ps.toList.all (fun p=>Nat.blt p cells.length)&&Nat.blt cells.length 4000)
   (run a ⟨cells.length,n,z09 ps.toList args (zua 0 cells .leaf),own,n,[]⟩) with
  | some (.normal,xs1)=>match zau (Nat.beq xs1.base n && !xs1.moved.any (Nat.beq id)&&Nat.blt id n) (xs1.look id) with
   | some (.raw (.lp ps1 a1 b1 .ready none) cells1)=>match run b (xs1.set id (.raw (.lp ps1 a1 b1 .busy none) cells1)) with
    | some (de,xs2)=>match xs2.look id with
     | some (.raw (.lp ps2 a2 b2 .busy none) cells2)=>zau (Nat.beq xs2.base n && !xs2.moved.any (Nat.beq id))
      (some ⟨.d (.bool (zey de)),xs2.next,(xs2.set id (.raw (.lp ps2 a2 b2 (zff de) (zcx de)) cells2)).own.filter (zxa n (reach xs2.look 1000 (List.range n) [])),xs2.moved⟩)
     | _=>none
    | none=>none
   | _=>none
  | _=>none
 | _=>none
def z1a (run:Runner) (xs:XS) (id:Nat) (aS:List Sym) (dst:Option Tmp):Option XS:=
 let roots:=zd2 (.yd id::aS) []
 let ids:=reach xs.look 1000 roots roots
 match zau (nodupB ids&&zke ids (.yd id::aS)) (zw8 xs.look ids 0 ids) with
 | some own0=>match zxb run (zbs ids id) (rens (zbs ids) aS) own0 ids.length with
  | some r=>some ((xs.after ids r.nx r.own r.mv).put dst (ren (rho' ids xs.next) r.s))
  | none=>none
 | none=>none
def zsh (Γ:XG) (call:Caller) (run:Runner) (o:Oper) (xs:XS):Option XS:=
 match o.op with
 | .call {callee:=.value f,args:=args,argTypes:=ts}=>match xs.val f with
  | .yd id=>zau (xdst o.dst xs.n) (z1a run xs id (args.toList.map xs.val) o.dst)
  | _=>zw9 Γ call o xs
 | _=>zw9 Γ call o xs
def xops (Γ:XG) (call:Caller) (run:Runner) (all:List Oper):List Oper→XS→Option XS
 | [],xs=>some xs
 | o::r,xs=>match o.guard with
  | none=>match zsh Γ call run o xs with
   | some xs'=>xops Γ call run all r xs'
   | none=>none
  | some (j,want)=>match (all[j]?).bind (·.dst) with
   | some t=>match xs.get t with
    | some (.d (.bool b))=>match b==want with
     | true=>match zsh Γ call run o xs with
      | some xs'=>xops Γ call run all r xs'
      | none=>none
     | false=>zau (xdst o.dst xs.n) (xops Γ call run all r (xs.put o.dst (.d (.val undef))))
    | some (.d (.val (.tuple ⟨[]⟩)))=>zau (xdst o.dst xs.n) (xops Γ call run all r (xs.put o.dst (.d (.val undef))))
    | _=>none
   | none=>none
def zfg (id:Nat):Option (DE×XS)→Option (DE×XS)
 | some (.exit j,xs)=>match Nat.beq j id with
  | true=>some (.normal,xs)
  | false=>some (.exit j,xs)
 | r=>r
def z9d (f:XS→Option (DE×XS)):Nat→XS→Option (DE×XS)
 | 0,_=>none
 | k+1,xs=>match f xs with
  | some (.normal,xs')=>z9d f k xs'
  | r=>r
def zd3 (xs:XS):Nat→Nat→List Sym
 | 0,_=>[]
 | k+1,t=>(match xs.get t with
  | some s=>s
  | none=>.junk)::zd3 xs k (t+1)
def zxc (l:Nat) (xs:XS):Option (DE×XS):=
 match xs.look l with
 | some (.raw (.lp _ _ _ st pend) _)=>match st,pend with
  | .busy,_=>none
  | _,none=>some (.normal,{xs with own:=xs.own.filter fun x=>!Nat.beq x.1 l})
  | _,some .ret=>some (.ret,{xs with own:=xs.own.filter fun x=>!Nat.beq x.1 l})
  | _,some (.exit i)=>some (.exit i,{xs with own:=xs.own.filter fun x=>!Nat.beq x.1 l})
  | _,_=>none
 | _=>none
def z9e (call:Caller) (xs:XS) (g:Operand) (ps:Array Tmp) (a b:Code):Option (DE×XS):=
 match zbb (xs.val g) with
 | some (gf,caps)=>
  let xs1:=xs.new (.raw (.lp ps a b .ready none) (zd3 xs xs.n 0))
  let roots:=zd2 (.yd xs.next::caps) []
  let ids:=reach xs1.look 1000 roots roots
  match zau (nodupB ids&&zke ids (.yd xs.next::caps)) (zw8 xs1.look ids 0 ids) with
  | some own0=>match call gf (rens (zbs ids) (.yd xs.next::caps)) own0 ids.length with
   | some r=>zau (!r.mv.any (Nat.beq (zbs ids xs.next))) (zxc xs.next (xs1.after ids r.nx r.own r.mv))
   | none=>none
  | none=>none
 | none=>none
def zbh:Code→Bool
 | .rangeFunc _ _ _ _=>true
 | .seq x y=>zbh x || zbh y
 | .cond _ x y=>zbh x || zbh y
 | .block _ c=>zbh c
 | .loop c=>zbh c
 | .scope c=>zbh c
 | _=>false
def zed (Γ:XG) (call:Caller) (run:Runner) (draw:List Oper→XS→Option XS):Code→Bool→XS→Option (DE×XS)
 | .skip,_,xs=>some (.normal,xs)
 | .region _ ops d,pl,xs=>match (match d with
   | true=>(match pl with
    | true=>draw ops.toList xs
    | false=>none)
   | false=>xops Γ call run ops.toList ops.toList xs) with
  | some xs'=>some (.normal,xs')
  | none=>none
 | .seq x y,pl,xs=>match zed Γ call run draw x pl xs with
  | some (.normal,xs')=>zed Γ call run draw y (pl && !zbh x) xs'
  | r=>r
 | .cond c x y,pl,xs=>match xs.val c with
  | .d (.bool true)=>zed Γ call run draw x pl xs
  | .d (.bool false)=>zed Γ call run draw y pl xs
  | _=>none
 | .block id c,pl,xs=>zfg id (zed Γ call run draw c pl xs)
 | .exit id,_,xs=>some (.exit id,xs)
 | .ret,_,xs=>some (.ret,xs)
 | .loop c,pl,xs=>z9d (zed Γ call run draw c (pl && !zbh c)) 100000 xs
 | .scope c,true,xs=>zed Γ call run draw c true xs
 | .label _,_,xs=>some (.normal,xs)
 | .rangeFunc g ps a b,true,xs=>z9e call xs g ps a b
 | _,_,_=>none
def xres (Γ:XG) (xs:XS):ResultVar→Option Sym
 | .tmp t=>xs.get t
 | .cell ad T=>match xs.get ad,Γ.ti T with
  | some (.bp id off),some ti=>match xs.look id with
   | some (.box _ cells)=>ybg ti (cells.drop off)
   | _=>none
  | _,_=>none
def z3l (Γ:XG) (xs:XS):List ResultVar→Option (List Sym)
 | []=>some []
 | v::r=>match xres Γ xs v,z3l Γ xs r with
  | some s,some l=>some (s::l)
  | _,_=>none
mutual
def loB (m:Nat):Sym→Bool
 | .bp i _=>Nat.blt i m
 | .ar i=>Nat.blt i m
 | .ap i _ _ _=>Nat.blt i m
 | .aS i _ _ _=>Nat.blt i m
 | .av i _ _ _=>Nat.blt i m
 | .yd i=>Nat.blt i m
 | .mp i=>Nat.blt i m
 | .tup l=>losB m l
 | .agg l=>losB m l
 | .fn _ l=>losB m l
 | _=>true
def losB (m:Nat):List Sym→Bool
 | []=>true
 | s::r=>loB m s&&losB m r
end
def ycc (Γ:XG) (f:Nat) (args:List Sym):Option D:=match Γ.kn f,allD args with
 | some g,some ds=>g ds
 | _,_=>none
def ye2:DE→Bool
 | .exit _=>false
 | _=>true
mutual
def yfh:Sym→List Nat
 | .aS i _ _ _=>[i]
 | .agg l=>z1b l
 | .tup l=>z1b l
 | _=>[]
def z1b:List Sym→List Nat
 | []=>[]
 | s::r=>yfh s++z1b r
end
def ye3 (Γ:XG) (xs:XS) (rs:List ResultVar):List Nat:=match z3l Γ xs rs with
 | some l=>z1b l
 | none=>[]
def xend (Γ:XG) (rs:List ResultVar) (n na:Nat) (de:DE) (xs:XS):Option XR:=match z3l Γ xs rs with
 | some l=>zau (ye2 de&&loB xs.next (tupS l)&&Nat.beq xs.base n&&Nat.blt na 4000)
  (some ⟨tupS l,xs.next,xs.own.filter (zxa n (reach xs.look 1000 (zln (tupS l) []++List.range n) (zln (tupS l) []))),xs.moved⟩)
 | none=>none
def xfun (Γ:XG) (call:Caller) (run:Runner) (draw:List Oper→XS→Option XS):Caller:=fun f args own n=>match Γ.kc f with
 | some g=>g args own n
 | none=>match ycc Γ f args with
 | some r=>some ⟨.d r,n,own,[]⟩
 | none=>match Γ.fn f with
  | some (ntmps,c,rs)=>match zed Γ call run draw c true ⟨args.length+(ntmps-args.length),n,zua 0 args .leaf,own,n,[]⟩ with
   | some (de,xs)=>xend Γ rs n args.length de (xs.frzs (ye3 Γ xs rs))
   | none=>none
  | none=>none
def xenv (Γ:XG) (draw:Caller→List Oper→XS→Option XS):Nat→Caller×Runner
 | 0=>(fun _ _ _ _=>none,fun _ _=>none)
 | k+1=>match xenv Γ draw k with
  | (call,run)=>(xfun Γ call run (draw call),fun c xs=>zed Γ call run (draw call) c false xs)
def ybs (Γ:XG) (draw:Caller→List Oper→XS→Option XS) (k:Nat):Caller:=(xenv Γ draw k).1
end Go.V
namespace Go.V
variable [Dr] [Ov]
open Go.RowKit
theorem zac {α:Type} {b:Bool} {x:Option α} {s:α}:zau b x=some s↔b=true∧x=some s:=by cases b <;> simp [zau]
theorem beq_iff {a b:Nat}:Nat.beq a b=true↔a=b:=by rw [Nat.beq_eq]
theorem zc4 {a b:Nat}:Nat.ble a b=true↔a≤b:=by rw [Nat.ble_eq]
theorem zb9 {a b:Nat}:Nat.blt a b=true↔a<b:=by rw [Nat.blt_eq]
theorem Tr.zhf : ∀ (k t:Nat),Tr.get k .leaf t=none
 | 0,_=>rfl
 | _+1,_=>rfl
theorem Tr.get_put : ∀ (k:Nat) (x:Tr) (t:Nat) (s:Sym) (u:Nat),t+1<2^k→Tr.get k (Tr.put k x t s) u=if t=u then some s else Tr.get k x u
 | 0,x,t,s,u,h=>by omega
 | k+1,x,t,s,u,h=>by
  have hk : ∀ t',t'+1+1<2^(k+1)→t'/2+1<2^k:=by intro t' h';rw [Nat.pow_succ] at h';omega
  cases x with
  | leaf=>
   cases t with
   | zero=>
    cases u with
    | zero=>simp [Tr.put,Tr.get]
    | succ u=>
     simp only [Tr.put,Tr.get,Tr.zhf];cases Nat.beq (u%2) 0 <;> simp
   | succ t=>
    have ih:=Tr.get_put k .leaf (t/2) s;simp only [Tr.put];cases ht:Nat.beq (t%2) 0 with
    | true=>
     have ht':=beq_iff.1 ht;cases u with
     | zero=>simp [Tr.get]
     | succ u=>
      simp only [Tr.get];cases hu:Nat.beq (u%2) 0 with
      | true=>
       have hu':=beq_iff.1 hu;simp only [ih (u/2) (hk t h),Tr.zhf];by_cases e:t=u
       ·subst e;simp
       ·have:¬ t/2=u/2:=by omega
        simp [e,this]
      | false=>
       have hu':u%2≠0:=fun e=>by rw [beq_iff.2 e] at hu;cases hu
       have:¬ t=u:=fun e=>hu' (e▸ht')
       simp [this,Tr.zhf]
    | false=>
     have ht':t%2≠0:=fun e=>by rw [beq_iff.2 e] at ht;cases ht
     cases u with
     | zero=>simp [Tr.get]
     | succ u=>
      simp only [Tr.get];cases hu:Nat.beq (u%2) 0 with
      | false=>
       have hu':u%2≠0:=fun e=>by rw [beq_iff.2 e] at hu;cases hu
       simp only [ih (u/2) (hk t h),Tr.zhf];by_cases e:t=u
       ·subst e;simp
       ·have:¬ t/2=u/2:=by omega
        simp [e,this]
      | true=>
       have hu':=beq_iff.1 hu;have:¬ t=u:=fun e=>ht' (e▸hu')
       simp [this,Tr.zhf]
  | node v l r=>
   cases t with
   | zero=>
    cases u with
    | zero=>simp [Tr.put,Tr.get]
    | succ u=>simp [Tr.put,Tr.get]
   | succ t=>
    simp only [Tr.put];cases ht:Nat.beq (t%2) 0 with
    | true=>
     have ih:=Tr.get_put k l (t/2) s;have ht':=beq_iff.1 ht;cases u with
     | zero=>simp [Tr.get]
     | succ u=>
      simp only [Tr.get];cases hu:Nat.beq (u%2) 0 with
      | true=>
       have hu':=beq_iff.1 hu;simp only [ih (u/2) (hk t h)];by_cases e:t=u
       ·subst e;simp
       ·have:¬ t/2=u/2:=by omega
        simp [e,this]
      | false=>
       have hu':u%2≠0:=fun e=>by rw [beq_iff.2 e] at hu;cases hu
       have:¬ t=u:=fun e=>hu' (e▸ht')
       simp [this]
    | false=>
     have ih:=Tr.get_put k r (t/2) s;have ht':t%2≠0:=fun e=>by rw [beq_iff.2 e] at ht;cases ht
     cases u with
     | zero=>simp [Tr.get]
     | succ u=>
      simp only [Tr.get];cases hu:Nat.beq (u%2) 0 with
      | false=>
       have hu':u%2≠0:=fun e=>by rw [beq_iff.2 e] at hu;cases hu
       simp only [ih (u/2) (hk t h)];by_cases e:t=u
       ·subst e;simp
       ·have:¬ t/2=u/2:=by omega
        simp [e,this]
      | true=>
       have hu':=beq_iff.1 hu;have:¬ t=u:=fun e=>ht' (e▸hu')
       simp [this]
theorem Tr.get_map (f:Sym→Sym) : ∀ (k:Nat) (x:Tr) (t:Nat),Tr.get k (Tr.map f x) t=(Tr.get k x t).map f
 | 0,x,t=>rfl
 | k+1,.leaf,t=>rfl
 | k+1,.node v l r,0=>rfl
 | k+1,.node v l r,u+1=>by
  simp only [Tr.map,Tr.get];cases Nat.beq (u%2) 0
  ·exact Tr.get_map f k r _
  ·exact Tr.get_map f k l _
theorem zfw {α:Type} : ∀ (l:List (Nat×α)) (t:Nat),zjf l t=zaa l t
 | [],t=>rfl
 | (k,v)::r,t=>by
  simp only [zjf,zaa];cases h:Nat.beq k t with
  | true=>rw [if_pos (beq_iff.1 h)]
  | false=>rw [if_neg (fun e=>by rw [beq_iff.2 e] at h;cases h)];exact zfw r t
theorem zzk : ∀ (l:List (Nat×Obj')) (t:Nat) (o:Obj'),xset t o l=aset t o l
 | [],t,o=>rfl
 | (k,v)::r,t,o=>by
  simp only [xset,aset];cases h:Nat.beq k t with
  | true=>rw [if_pos (beq_iff.1 h)]
  | false=>rw [if_neg (fun e=>by rw [beq_iff.2 e] at h;cases h)];rw [zzk r t o]
theorem zmn (id:Nat) (x:D) : ∀ (l:List (Nat×Sym)) (t:Nat),zaa (zcw id x l) t=(zaa l t).map (thaw id x)
 | [],t=>rfl
 | (k,v)::r,t=>by simp only [zcw,zaa];split;rfl;exact zmn id x r t
theorem zp5 (id:Nat) : ∀ (l:List (Nat×Sym)) (t:Nat),zaa (zb4 id l) t=(zaa l t).map (za9 id)
 | [],t=>rfl
 | (k,v)::r,t=>by simp only [zb4,zaa];split;rfl;exact zp5 id r t
theorem zni (M:List Nat) : ∀ (l:List (Nat×Sym)) (t:Nat),zaa (za5 M l) t=(zaa l t).map (zan M)
 | [],t=>rfl
 | (k,v)::r,t=>by simp only [za5,zaa];split;rfl;exact zni M r t
mutual
theorem zsi : ∀ (s:Sym),zan [] s=s
 | .ar i=>by simp [zan]
 | .ap i s j o=>by simp [zan]
 | .aS i s j o=>by simp [zan]
 | .av i s j o=>by simp [zan]
 | .yd i=>by simp [zan]
 | .bp i o=>by simp [zan]
 | .mp i=>by simp [zan]
 | .agg l=>by simp [zan,zhg l]
 | .tup l=>by simp [zan,zhg l]
 | .fn f l=>by simp [zan,zhg l]
 | .d x=>by simp [zan]
 | .nils=>by simp [zan]
 | .junk=>by simp [zan]
theorem zhg : ∀ (l:List Sym),zbl [] l=l
 | []=>by simp [zbl]
 | s::r=>by simp [zbl,zsi s,zhg r]
end
theorem any_beq {i:Nat} {l:List Nat}:l.any (Nat.beq i)=true↔i∈l:=by
 rw [List.any_eq_true]
 constructor
 ·rintro ⟨x,hx,h⟩;rw [beq_iff] at h;subst h;exact hx
 ·exact fun h=>⟨i,h,beq_iff.2 rfl⟩
theorem zxd {i j:Nat} {l:List Nat}:i∈zik j l↔i=j∨i∈l:=by
 unfold zik
 split
 ·rename_i h;rw [any_beq] at h
  exact ⟨.inr,fun h'=>h'.elim (fun e=>e▸h) id⟩
 ·simp [or_comm]
structure Ag (st:St) (xs:XS):Prop where
 n:st.n=xs.n
 next:st.next=xs.next
 own:st.own=xs.own
 base:st.base=xs.base
 moved : ∀ id,id<st.base→id∈st.moved→id∈xs.moved
 slots : ∀ t,zaa st.slots t=xs.get t
section
variable {st:St} {xs:XS}
theorem Ag.val (h:Ag st xs):st.val=xs.val:=by
 funext x
 cases x with
 | tmp t=>
  simp only [St.val,XS.val,h.slots];cases xs.get t <;> rfl
 | _=>rfl
theorem Ag.look (h:Ag st xs):st.look=xs.look:=by
 funext id;simp only [St.look,XS.look,zfw,h.own]
theorem zf8 {dst:Option Tmp} {n:Nat} (h:xdst dst n=true):(∀ t,dst=some t→t<n)∧(∀ t,dst=some t→t+1<4096):=by
 constructor <;> intro t e <;> subst e <;> simp only [xdst,Bool.and_eq_true,zb9] at h
 ·exact h.1
 ·exact Nat.add_lt_add_right h.2 1
theorem Ag.put (h:Ag st xs) {dst:Option Tmp} {n:Nat} (hd:xdst dst n=true) (s:Sym):Ag (st.put dst s) (xs.put dst s):=by
 cases dst with
 | none=>exact h
 | some t=>
  have ht:=(zf8 hd).2 t rfl;refine ⟨h.n,h.next,h.own,h.base,h.moved,fun u=>?_⟩
  show (if t=u then some s else zaa st.slots u)=Tr.get dep (Tr.put dep xs.slots t s) u
  rw [Tr.get_put dep xs.slots t s u (by simpa [dep] using ht),h.slots];rfl
theorem Ag.new (h:Ag st xs) (o:Obj'):Ag (st.new o) (xs.new o):=by
 refine ⟨h.n,?_,?_,h.base,h.moved,h.slots⟩
 ·simp only [St.new,XS.new,h.next]
 ·simp only [St.new,XS.new,h.next,h.own]
theorem Ag.set (h:Ag st xs) (id:Nat) (o:Obj'):Ag {st with own:=aset id o st.own} (xs.set id o):=by
 refine ⟨h.n,h.next,?_,h.base,h.moved,h.slots⟩
 simp only [XS.set,zzk,h.own]
theorem Ag.frz (h:Ag st xs) (id:Nat):Ag (st.frz id) (xs.frz id):=by
 unfold St.frz XS.frz
 rw [← h.look]
 cases hl:st.look id with
 | none=>exact h
 | some o=>
  cases o with
  | box T cells=>exact h
  | raw k cells=>exact h
  | arr T sz rows=>
   refine ⟨h.n,h.next,by simp only [h.own],h.base,h.moved,fun t=>?_⟩
   show zaa (zcw id _ st.slots) t=Tr.get dep (Tr.map _ xs.slots) t
   rw [zmn,Tr.get_map,h.slots];rfl
  | map T rows=>
   refine ⟨h.n,h.next,by simp only [h.own],h.base,h.moved,fun t=>?_⟩
   show zaa (zcw id _ st.slots) t=Tr.get dep (Tr.map _ xs.slots) t
   rw [zmn,Tr.get_map,h.slots];rfl
theorem Ag.frzs : ∀ {l:List Nat} {st:St} {xs:XS},Ag st xs→Ag (st.frzs l) (xs.frzs l)
 | [],_,_,h=>h
 | id::r,_,_,h=>Ag.frzs (l:=r) (h.frz id)
theorem Ag.renew (h:Ag st xs) (id:Nat) (o:Obj'):Ag (st.renew id o) (xs.renew id o):=by
 refine ⟨h.n,h.next,by simp only [St.renew,XS.renew,h.own],h.base,fun i hi hm=>?_,fun t=>?_⟩
 ·simp only [St.renew] at hi hm
  simp only [XS.renew];have hb:=h.base;rcases List.mem_cons.1 hm with e | hm
  ·subst e
   rw [show Nat.blt i xs.base=true from zb9.2 (by omega)]
   exact zxd.2 (.inl rfl)
  ·have:=h.moved i hi hm
   split
   ·exact zxd.2 (.inr this)
   ·exact this
 show zaa (zb4 id st.slots) t=Tr.get dep (Tr.map _ xs.slots) t
 rw [zp5,Tr.get_map,h.slots];rfl
theorem Ag.after (h:Ag st xs) (hb:st.base≤st.next) (ids:List Nat) (nx:Nat) (own':List (Nat×Obj')) (mv:List Nat):Ag (st.after ids nx own' mv) (xs.after ids nx own' mv):=by
 refine ⟨h.n,by simp only [St.after,XS.after,h.next],by simp only [St.after,XS.after,h.own,h.next],h.base,fun i hi hm=>?_,fun t=>?_⟩
 ·simp only [St.after] at hi hm
  simp only [XS.after];rw [← h.next];rcases List.mem_append.1 hm with hm | hm
  ·exact List.mem_append.2 (.inl hm)
  ·exact List.mem_append.2 (.inr (h.moved i hi hm))
 show zaa (za5 _ st.slots) t=XS.get (xs.after ids nx own' mv) t
 rw [zni,h.slots,h.next]
 cases mv with
 | nil=>
  show _=xs.get t
  cases xs.get t with
  | none=>rfl
  | some s=>simp [zsi]
 | cons m r=>
  show _=Tr.get dep (Tr.map _ xs.slots) t
  rw [Tr.get_map];rfl
end
structure XGood (P:Program) (Γ:XG):Prop where
 ti : ∀ {t ti},Γ.ti t=some ti→TI.of P t=some ti
 zf : ∀ {t},Γ.zf t=true→zfit P t=true
 ek : ∀ {t ks},Γ.ek t=some ks→eqKinds P t=some ks
 fn : ∀ {f n c rs},Γ.fn f=some (n,c,rs)→callable P f=true∧∃ fn,P.funcs[f]?=some fn∧fn.body=some c∧fn.ntmps=n∧fn.results.toList=rs
 kn : ∀ {f g ds r},Γ.kn f=some g→g ds=some r→za2 P f ds r
 kc : ∀ {f g args own n r},Γ.kc f=some g→g args own n=some r→Sym.los n args→zcr P f args own n r.s r.nx r.own r.mv
section
variable {P:Program} {Γ:XG} {look:Nat→Option Obj'} {ρ:Operand→Sym} {k:Sym→Prop} {s:Sym}
theorem znj {ti:TI} {l:List D} (h:z08 ti l=some s) (hk:k s):headD ti l k:=by
 unfold z08 at h;unfold headD
 split at h
 ·rename_i e;rw [zac,zc4] at h;rw [if_pos e];obtain ⟨h1,h2⟩:=h;cases h2;exact ⟨h1,hk⟩
 ·rename_i e;rw [if_neg (by rw [e];decide)]
  split at h
  ·cases h;exact hk
  ·cases h
theorem zxe {ti:TI} {l:List Sym} (h:z81 ti l=some s) (hk:k s):zqk ti l k:=by
 unfold z81 at h;unfold zqk
 split at h
 ·rename_i e;rw [zac,zc4] at h;rw [if_pos e];obtain ⟨h1,h2⟩:=h;cases h2;exact ⟨h1,hk⟩
 ·rename_i e;rw [if_neg (by rw [e];decide)]
  split at h
  ·cases h;exact hk
  ·cases h
theorem zzl {ti:TI} {x:Sym} (h:ydr look ti x=some s) (hk:k s):zjx look ti x k:=by
 unfold ydr at h
 split at h
 ·simp only [zjx];exact znj h hk
 ·rename_i id off
  simp only [zjx];cases hl:look id with
  | none=>rw [hl] at h;cases h
  | some o=>
   rw [hl] at h;cases o <;> simp only at h ⊢ <;> first | exact zxe h hk | cases h
 ·rename_i id sz i off
  simp only [zjx];cases hl:look id with
  | none=>rw [hl] at h;cases h
  | some o=>
   rw [hl] at h;cases o <;> simp only at h ⊢ <;> first
    | (rw [zac,Bool.and_eq_true,beq_iff,zb9] at h;exact ⟨h.1.1,h.1.2,znj h.2 hk⟩)
    | cases h
 ·cases h
theorem znq {kd:TK} {x:Sym} {f:Nat} (h:zml kd x f=some s) (hk:k s):zdq kd x f k:=by
 have hz : ∀ {sz:Nat},(!Nat.beq sz 0)=true→sz≠0:=by intro sz h e;subst e;simp at h
 unfold zml at h;unfold zdq
 split at h
 ·split at h
  ·rename_i hf;simp only [hf];rw [zac] at h;obtain ⟨h1,h2⟩:=h;cases h2;exact ⟨hz h1,hk⟩
  ·rename_i hf;simp only [hf];rw [zac] at h;obtain ⟨h1,h2⟩:=h;cases h2;exact ⟨hz h1,hk⟩
  ·rename_i hf;simp only [hf];rw [zac] at h;obtain ⟨h1,h2⟩:=h;cases h2;exact ⟨hz h1,hk⟩
  ·cases h
 ·cases h
theorem zxf {kd:TK} {x:Sym} {f:Nat} (h:z88 kd x f=some s) (hk:k s):zm0 kd x f k:=by
 unfold z88 at h;unfold zm0
 split at h
 ·split at h
  ·rename_i hf;simp only [hf]
   split at h
   ·rw [zac,zc4] at h;obtain ⟨h1,h2⟩:=h;cases h2;exact ⟨h1,hk⟩
   ·simp only [Bool.false_eq_true,if_false]
    split at h
    ·rename_i hd;cases h;rw [hd];exact hk
    ·cases h
  ·rename_i hf;simp only [hf]
   split at h
   ·rw [zac,zc4] at h;obtain ⟨h1,h2⟩:=h;cases h2;exact ⟨h1,hk⟩
   ·simp only [Bool.false_eq_true,if_false]
    split at h
    ·rename_i hd;cases h;rw [hd];exact hk
    ·cases h
  ·cases h
 ·cases h
theorem znr {esz:Nat} {x y:Sym} (h:zmm look esz x y=some s) (hk:k s):zcc look esz x y k:=by
 unfold zmm at h
 split at h
 ·rw [zac] at h;simp only [Bool.and_eq_true,decide_eq_true_eq,beq_iff] at h;obtain ⟨⟨⟨h1,h2⟩,h3⟩,h4⟩:=h;cases h4
  simp only [zcc];exact ⟨⟨h1,h2⟩,h3,hk⟩
 ·rename_i id _ n
  simp only [zcc];cases hl:look id with
  | none=>rw [hl] at h;cases h
  | some o=>
   rw [hl] at h;cases o <;> simp only at h ⊢ <;> first
    | (rw [zac] at h;simp only [Bool.and_eq_true,decide_eq_true_eq,beq_iff] at h;obtain ⟨⟨⟨h1,h2⟩,h3⟩,h4⟩:=h;cases h4;exact ⟨⟨h1,h2⟩,h3,hk⟩)
    | cases h
 ·cases h
theorem zxg {x y:Sym} (h:z9a x y=some s) (hk:k s):zm1 x y k:=by
 unfold z9a at h
 split at h
 ·rw [zac] at h;simp only [Bool.and_eq_true,decide_eq_true_eq] at h
  obtain ⟨⟨h1,h2⟩,h4⟩:=h;cases h4;simp only [zm1];exact ⟨⟨h1,h2⟩,hk⟩
 ·cases h
theorem zim {kd:IntKind} {n:Int} (h:zp3 kd n=some s) (hk:k s):arith kd n k:=by
 cases kd <;> simp only [zp3,arith] at h ⊢ <;> first
  | (rw [zac] at h;simp only [Bool.and_eq_true,decide_eq_true_eq] at h;obtain ⟨h1,h2⟩:=h;cases h2;split;(rw [IntWalk.i64_in n (by omega)];exact hk);exact ⟨h1,hk⟩)
  | (cases h;exact hk)
theorem zue {kd:IntKind} {a b:Int} {op:BinOp} (h:zzd kd a b op=some s) (hk:k s):zl1 kd a b k op:=by
 cases op <;> simp only [zzd,zl1] at h ⊢ <;> first
  | exact zim h hk
  | (rw [zac] at h;obtain ⟨h1,h2⟩:=h;refine ⟨by simpa using h1,?_⟩;first | exact zim h2 hk | (cases h2;exact hk))
  | (cases h;exact hk)
  | cases h
theorem z9f (a:ByteArray):a.toList=bl a:=ByteArray.toList_eq a
theorem zuf {a b:ByteArray} {op:BinOp} (h:zze a b op=some s) (hk:k s):zl2 a b k op:=by
 cases op <;> simp only [zze,zl2,z9f] at h ⊢ <;> first
  | (rw [zac,zc4] at h;obtain ⟨h1,h2⟩:=h;cases h2;exact ⟨by omega,hk⟩)
  | (cases h;exact hk)
  | cases h
theorem zqx {a b:Bool} {op:BinOp} (h:zt7 a b op=some s) (hk:k s):zix a b k op:=by
 cases op <;> simp only [zt7,zix] at h ⊢ <;> first | (cases h;exact hk) | cases h
theorem z3m {op:BinOp} {x y:Sym} (h:xbin op x y=some s) (hk:k s):sbin op x y k:=by
 unfold xbin at h
 split at h
 ·split at h
  ·rw [zac] at h;obtain ⟨h1,h2⟩:=h;cases h2;simp only [sbin];exact ⟨by simpa using h1,hk⟩
  ·rw [zac] at h;obtain ⟨h1,h2⟩:=h;cases h2;simp only [sbin];exact ⟨by simpa using h1,hk⟩
  ·rename_i n1 n2
   rw [zac] at h;obtain ⟨h1,h2⟩:=h;have h1:_=_:=of_decide_eq_true h1
   have h3:=zue h2 hk;cases op <;> first | exact absurd rfl n1 | exact absurd rfl n2 | (simp only [sbin];exact ⟨h1,h3⟩)
 ·simp only [sbin];exact zuf h hk
 ·simp only [sbin];exact zqx h hk
 ·split at h
  ·cases h;simp only [sbin];intro b hb;cases b
   ·exact hk
   ·exact absurd (hb rfl) (by simp)
  ·cases h;simp only [sbin];intro b hb;cases b
   ·exact hk
   ·exact absurd (hb rfl) (by simp)
  ·cases h
 ·split at h
  ·cases h;simp only [sbin];exact hk
  ·cases h;simp only [sbin];exact hk
  ·cases h
 ·cases h
theorem zug (hg:XGood P Γ) {op:BinOp} {t:Nat} {x y:Sym} (h:zzf Γ op t x y=some s) (hk:k s):zm2 P op t x y k:=by
 unfold zzf at h
 split at h
 ·split at h
  ·rename_i ks hks
   split at h
   ·rename_i r hr
    simp only [zm2,hg.ek hks,hr];split at h
    ·cases h;exact hk
    ·cases h;exact hk
    ·cases h
   ·cases h
  ·cases h
 ·cases h
theorem z9g {op:UnOp} {x:Sym} (h:xun op x=some s) (hk:k s):sun op x k:=by
 unfold xun at h
 split at h
 ·split at h
  ·cases h;simp only [sun];exact hk
  ·cases h
 ·split at h
  ·simp only [sun];exact zim h hk
  ·cases h
 ·cases h
theorem zqy {kd:TK} {x:Sym} (h:zt8 kd x=some s) (hk:k s):zev kd x k:=by
 unfold zt8 at h
 split at h
 ·cases h;simp only [zev];exact hk
 ·cases h;simp only [zev];exact hk
 ·cases h
theorem zqz {x:Sym} {i:Nat} (h:zt9 x i=some s) (hk:k s):zew x i k:=by
 unfold zt9 at h
 split at h
 ·split at h
  ·rename_i hx;cases h;simp only [zew,hx];exact hk
  ·cases h
 ·simp only [zew,h];exact hk
 ·cases h
theorem z3n {kd:TK} {x:Sym} (h:xlen look kd x=some s) (hk:k s):slen look kd x k:=by
 unfold xlen at h
 split at h
 ·cases h;simp only [slen];exact hk
 ·cases h;simp only [slen];exact hk
 ·cases h;simp only [slen];exact hk
 ·split at h
  ·rename_i hx;cases h;simp only [slen,hx];exact hk
  ·cases h
 ·cases h;simp only [slen];exact hk
 ·cases h
theorem zxh (hg:XGood P Γ) {kd:TK} {x:Sym} {lo hi:Option Sym} (h:z9b Γ look kd x lo hi=some s) (hk:k s):zo1 P kd=true∧zgi P look kd x lo hi k:=by
 unfold z9b at h
 split at h
 ·split at h
  ·rename_i te o hh h1 h2 h3
   rw [zac] at h;simp only [Bool.and_eq_true,decide_eq_true_eq,List.all_eq_true,beq_iff] at h;obtain ⟨⟨⟨⟨q1,q2⟩,q3⟩,q4⟩,q5⟩:=h;cases q5;simp only [zgi,zo1,hg.ti h1,h2,h3,elemSize];exact ⟨rfl,⟨q1,q2,q3⟩,q4,hk⟩
  ·cases h
 ·split at h
  ·rename_i T sz rows te h0 h1
   split at h
   ·rename_i o hh h2 h3
    rw [zac] at h;simp only [Bool.and_eq_true,decide_eq_true_eq,beq_iff] at h;obtain ⟨⟨⟨⟨q1,q2⟩,q3⟩,q4⟩,q5⟩:=h;cases q5;simp only [zgi,zo1,hg.ti h1,h0,h2,h3,elemSize];refine ⟨rfl,⟨q1,q2,q3⟩,q4,?_⟩
    by_cases e:o=hh
    ·rw [if_pos e];simpa [e] using hk
    ·rw [if_neg e];simpa [e] using hk
   ·cases h
  ·cases h
 ·split at h
  ·rename_i o hh h2 h3
   rw [zac] at h;simp only [Bool.and_eq_true,decide_eq_true_eq] at h;obtain ⟨⟨⟨q1,q2⟩,q3⟩,q5⟩:=h;cases q5;simp only [zgi,zo1,h2,h3];exact ⟨trivial,⟨q1,q2,q3⟩,hk⟩
  ·cases h
 ·cases h
theorem z3o {x:Sym} (h:xnil x=some s) (hk:k s):snil x k:=by
 unfold xnil at h
 split at h <;> first | (cases h;simp only [snil];exact hk) | cases h
theorem zzm {ti:TI} (h:yds ti=some s) (hk:k s):zeroS ti k:=by
 unfold yds at h;unfold zeroS
 split at h
 ·rename_i e;rw [zac] at h;obtain ⟨h1,h2⟩:=h;cases h2;rw [if_pos e];exact ⟨h1,hk⟩
 ·rename_i e;rw [if_neg (by rw [e];decide)]
  split at h
  ·rename_i hz;cases h;rw [hz];exact hk
  ·cases h
theorem zuh {kk:TK} {te:TI} {c:Bool} {m x:Sym} (h:zzg look kk te c m x=some s) (hk:k s):zfa look kk te c m x k:=by
 unfold zzg at h
 split at h
 ·rename_i rows y hr
  rw [zac] at h;obtain ⟨h1,h⟩:=h;simp only [zfa,hr];refine ⟨h1,?_⟩
  split at h
  ·rename_i v hv;cases h;rw [hv];cases c <;> exact hk
  ·rename_i hv
   rw [hv];split at h
   ·rename_i z hz;cases h
    refine zzm hz ?_
    cases c <;> exact hk
   ·cases h
  ·cases h
 ·cases h
theorem zxi {ti:TI} {parts:List (Nat×Sym)} (h:z9c ti parts=some s) (hk:k s):zm7 ti parts k:=by
 unfold z9c at h
 split at h
 ·rename_i fs hkd
  rw [zac] at h;obtain ⟨h1,h⟩:=h;simp only [zm7,hkd];refine ⟨h1,?_⟩
  split at h
  ·rename_i out ho;cases h;rw [ho];exact hk
  ·cases h
 ·cases h
theorem zp6 (hg:XGood P Γ) {op:Op} (h:xop Γ look ρ op=some s) (hk:k s):sopB P look ρ op k:=by
 unfold xop at h
 split at h
 ·cases h;simp only [sopB,sop];exact hk
 ·cases h;simp only [sopB,sop];exact hk
 ·rename_i c x y
  simp only [sopB,sop];split at h
  ·rename_i e;cases h;rw [e];simp only [zyl,if_true];exact hk
  ·rename_i e;cases h;rw [e];simp only [zyl,Bool.false_eq_true,if_false];exact hk
  ·cases h
 ·split at h
  ·rename_i ht;simp only [sopB,sop,hg.ti ht];exact zzl h hk
  ·cases h
 ·split at h
  ·rename_i ht;simp only [sopB,sop,hg.ti ht];exact znq h hk
  ·cases h
 ·split at h
  ·rename_i ht;simp only [sopB,sop,hg.ti ht];exact zxf h hk
  ·cases h
 ·split at h
  ·rename_i ht
   split at h
   ·rename_i ht2;simp only [sopB,sop,hg.ti ht,hg.ti ht2];exact znr h hk
   ·cases h
  ·cases h
 ·split at h
  ·rename_i ht;simp only [sopB,sop,hg.ti ht];exact zxg h hk
  ·cases h
 ·split at h
  ·rename_i ht;simp only [sopB,sop,hg.ti ht];exact zxh hg h hk
  ·cases h
 ·split at h
  ·rename_i ht
   simp only [sopB,sop,hg.ti ht];split at h
   ·rename_i e1 e2;right;rw [e1,e2];exact zug hg h hk
   ·rename_i e;rw [zac] at h;left;exact ⟨h.1,z3m h.2 hk⟩
  ·cases h
 ·simp only [sopB,sop];exact z9g h hk
 ·split at h
  ·rename_i h1 h2;simp only [sopB,sop,hg.ti h1,hg.ti h2];exact zqy h hk
  ·cases h
 ·simp only [sopB,sop];exact zqz h hk
 ·split at h
  ·rename_i ht
   split at h
   ·rename_i h1 h2;rw [zac] at h;simp only [sopB,sop,hg.ti ht,hg.ti h1,hg.ti h2];exact ⟨hg.zf h.1,zuh h.2 hk⟩
   ·cases h
  ·cases h
 ·simp only [sopB,sop];exact z3o h hk
 ·split at h
  ·rename_i hx hy
   split at h
   ·rename_i ht;simp only [sopB,sop,hx,hy,hg.ti ht];exact z3n h hk
   ·cases h
  ·cases h
 ·simp only [sopB,sop]
  split at h
  ·rename_i heq;rw [heq];cases h;simp only [zg1];rename_i a _ b
   by_cases e:b>a
   ·simpa [e] using hk
   ·simpa [e] using hk
  ·cases h
 ·simp only [sopB,sop]
  split at h
  ·rename_i heq;rw [heq];cases h;simp only [zg1];rename_i a _ b
   by_cases e:b<a
   ·simpa [e] using hk
   ·simpa [e] using hk
  ·cases h
 ·split at h
  ·rename_i ht;simp only [sopB,hg.ti ht];exact zxi h hk
  ·cases h
 ·rename_i t n parts
  split at h
  ·rename_i e _ _ _ _ ht
   split at h
   ·rename_i te xs hte hin
    split at h
    ·rename_i rows hrows
     rw [zac] at h;simp only [Bool.and_eq_true,beq_iff,zb9,zc4] at h;obtain ⟨⟨⟨h1,h2⟩,h3⟩,h⟩:=h;cases h;simp only [sopB,zg7];rw [hg.ti ht];simp only;rw [hg.ti hte];simp only;rw [hin];simp only;rw [hrows];exact ⟨h1,h2,h3,hk⟩
    ·cases h
   ·cases h
  ·cases h
 ·split at h
  ·rename_i hf;cases h;simp only [sopB,hf];exact hk
  ·cases h
 ·cases h
end
end Go.V
namespace Go.V
variable [Dr] [Ov]
open Go.RowKit
def zbi (P:Program) (call:Caller):Prop:=∀ f args own n r,call f args own n=some r→Sym.los n args→zcr P f args own n r.s r.nx r.own r.mv
theorem zb2 : ∀ {ids:List Nat} {i:Nat},i∈ids→rho ids (zbs ids i)=i∧zbs ids i<ids.length
 | j::r,i,h=>by
  simp only [zbs];cases hb:Nat.beq i j with
  | true=>rw [beq_iff] at hb;subst hb;simp [rho]
  | false=>
   have hne:i≠j:=fun e=>by rw [beq_iff.2 e] at hb;cases hb
   have hr:i∈r:=by rcases List.mem_cons.1 h with h | h;exact absurd h hne;exact h
   obtain ⟨h1,h2⟩:=zb2 hr;simp only [rho] at h1 ⊢;simp only [List.getD_cons_succ,List.length_cons];exact ⟨h1,by omega⟩
mutual
theorem ydt {ids:List Nat} : ∀ {s:Sym},innB ids s=true→ren (rho ids) (ren (zbs ids) s)=s∧Sym.lo ids.length (ren (zbs ids) s)
 | .bp i o,h=>by simp only [innB,any_beq] at h;have:=zb2 h;simp only [ren,Sym.lo];exact ⟨by rw [this.1],this.2⟩
 | .ar i,h=>by simp only [innB,any_beq] at h;have:=zb2 h;simp only [ren,Sym.lo];exact ⟨by rw [this.1],this.2⟩
 | .ap i s j o,h=>by simp only [innB,any_beq] at h;have:=zb2 h;simp only [ren,Sym.lo];exact ⟨by rw [this.1],this.2⟩
 | .aS i s j o,h=>by simp only [innB,any_beq] at h;have:=zb2 h;simp only [ren,Sym.lo];exact ⟨by rw [this.1],this.2⟩
 | .av i s j o,h=>by simp only [innB,any_beq] at h;have:=zb2 h;simp only [ren,Sym.lo];exact ⟨by rw [this.1],this.2⟩
 | .yd i,h=>by simp only [innB,any_beq] at h;have:=zb2 h;simp only [ren,Sym.lo];exact ⟨by rw [this.1],this.2⟩
 | .mp i,h=>by simp only [innB,any_beq] at h;have:=zb2 h;simp only [ren,Sym.lo];exact ⟨by rw [this.1],this.2⟩
 | .tup l,h=>by simp only [innB] at h;have:=zfx h;simp [ren,Sym.lo,this.1,this.2]
 | .agg l,h=>by simp only [innB] at h;have:=zfx h;simp [ren,Sym.lo,this.1,this.2]
 | .fn f l,h=>by simp only [innB] at h;have:=zfx h;simp [ren,Sym.lo,this.1,this.2]
 | .d x,h=>by simp [ren,Sym.lo]
 | .nils,h=>by simp [ren,Sym.lo]
 | .junk,h=>by simp [ren,Sym.lo]
theorem zfx {ids:List Nat} : ∀ {l:List Sym},zke ids l=true→rens (rho ids) (rens (zbs ids) l)=l∧Sym.los ids.length (rens (zbs ids) l)
 | [],h=>by simp [rens,Sym.los]
 | s::r,h=>by
  simp only [zke,Bool.and_eq_true] at h;have h1:=ydt h.1;have h2:=zfx h.2;simp [rens,Sym.los,h1.1,h1.2,h2.1,h2.2]
end
theorem z1c {ids:List Nat} {o:Obj'} (h:innO ids o=true):zcd (rho ids) (zcd (zbs ids) o)=o∧(zcd (zbs ids) o).lo ids.length:=by
 cases o with
 | box T cells=>simp only [innO] at h;have:=zfx h;simp [zcd,Obj'.lo,this.1,this.2]
 | arr T sz rows=>simp [zcd,Obj'.lo]
 | map T rows=>simp [zcd,Obj'.lo]
 | raw k cells=>simp only [innO] at h;have:=zfx h;simp [zcd,Obj'.lo,this.1,this.2]
theorem zhh : ∀ {l:List Nat},nodupB l=true→l.Nodup
 | [],_=>List.nodup_nil
 | i::r,h=>by
  simp only [nodupB,Bool.and_eq_true,Bool.not_eq_true'] at h;refine List.nodup_cons.2 ⟨fun hm=>?_,zhh h.2⟩
  rw [any_beq.2 hm] at h;cases h.1
theorem zmo {look:Nat→Option Obj'} {ids:List Nat} : ∀ {k:Nat} {l:List Nat} {own0:List (Nat×Obj')},zw8 look ids k l=some own0→(∀ j x,l[j]?=some x→rho ids (k+j)=x) →
  own0.map (·.1)=List.range' k l.length∧(∀ i o,(i,o)∈own0→∃ o',look (rho ids i)=some o'∧o=zcd (zbs ids) o'∧innO ids o'=true)∧∀ i∈l,∃ o,look i=some o
 | k,[],own0,h,_=>by simp [zw8] at h;subst h;simp
 | k,i::r,own0,h,hp=>by
  simp only [zw8] at h;split at h
  ·rename_i o ho
   split at h
   ·rename_i hin
    split at h
    ·rename_i l hl
     cases h;obtain ⟨h1,h2,h3⟩:=zmo hl (fun j x hj=>by have:=hp (j+1) x (by simpa using hj);rw [← this];congr 1;omega)
     have h0:rho ids k=i:=hp 0 i (by simp)
     refine ⟨by simp only [List.map_cons,List.length_cons,List.range'_succ,h1],?_,?_⟩
     ·intro i' o' hm
      rcases List.mem_cons.1 hm with e | hm
      ·cases e;exact ⟨o,by rw [h0];exact ho,rfl,hin⟩
      ·exact h2 i' o' hm
     ·intro i' hm
      rcases List.mem_cons.1 hm with e | hm
      ·subst e;exact ⟨o,ho⟩
      ·exact h3 i' hm
    ·cases h
   ·cases h
  ·cases h
theorem zp7 {st:St} {ids:List Nat} : ∀ {l:List (Nat×Obj')},(∀ i o,(i,o)∈l→st.look (rho ids i)=some (zcd (rho ids) o)∧o.lo ids.length)→zes st ids l
 | [],_=>trivial
 | (i,o)::r,h=>by
  simp only [zes];obtain ⟨h1,h2⟩:=h i o (by simp)
  rw [h1];exact ⟨rfl,h2,zp7 fun i' o' hm=>h i' o' (List.mem_cons_of_mem _ hm)⟩
section
variable {P:Program} {Γ:XG} {call:Caller} {X:Nat→Prop} {w0:Base} {st:St} {xs xs':XS} {β:Nat→Value} {a:Act} {w:World}
theorem zsj (hc:zbi P call) (hag:Ag st xs) (hm:Mods X w0 st β a w) {f:Operand} {args:List Operand} {dst:Option Tmp} {g n:Nat} {caps:List Sym} (hcal:zbb (st.val f)=some (g,caps))
  (hd:xdst dst n=true) (h:xmut call xs g (args.map st.val++caps) dst=some xs'):EMut P st f args dst (fun st'=>Ag st' xs'):=by
 unfold xmut at h
 simp only at h
 generalize hids:reach xs.look 1000 (zd2 (args.map st.val++caps) []) (zd2 (args.map st.val++caps) [])=ids at h
 split at h
 ·rename_i own0 hp
  rw [zac,Bool.and_eq_true] at hp;obtain ⟨⟨hn,hin⟩,hp⟩:=hp;split at h
  ·rename_i r hr
   cases h;obtain ⟨h1,h2⟩:=zfx hin;obtain ⟨q1,q2,q3⟩:=zmo hp (fun j x hj=>by simp [rho,hj])
   refine ⟨g,caps,ids,rens (zbs ids) (args.map st.val++caps),own0,r.s,r.nx,r.own,r.mv,hcal,h1,h2,⟨zhh hn,?_,by rw [q1,List.range_eq_range'],?_⟩,hc _ _ _ _ _ hr h2,?_⟩
   ·intro id hid
    obtain ⟨o,ho⟩:=q3 id hid;rw [← hag.look] at ho;exact (hm.obj ho).1
   ·refine zp7 fun i o hmem=>?_
    obtain ⟨o',h3,h4,h5⟩:=q2 i o hmem;obtain ⟨h6,h7⟩:=z1c h5;rw [hag.look,h4,h6];exact ⟨h3,h7⟩
   ·rw [hag.next]
    exact (hag.after hm.still.1 ids r.nx r.own r.mv).put hd _
  ·cases h
 ·cases h
theorem zxj {w:World} {E:Nat→Prop} {β:Nat→Value} : ∀ {l:List Sym} {ds:List D} {vs:List Value},allD l=some ds→Sms w E β l vs→za6 w E ds vs
 | [],ds,vs,h,hs=>by simp [allD] at h;subst h;simpa [Sms,za6] using hs
 | s::r,ds,vs,h,hs=>by
  simp only [allD] at h;split at h
  ·rename_i x xs hx hxs
   cases h;simp only [Sms] at hs;obtain ⟨v,vs',rfl,h1,h2⟩:=hs;simp only [za6];refine ⟨v,vs',rfl,?_,zxj hxs h2⟩
   cases s <;> simp only [unD] at hx <;> cases hx
   ·simpa [Sm] using h1
   ·simp only [Sm] at h1;subst h1;simp only [R];exact ⟨none,0,rfl,by simp,by simp,fun _=>rfl,by simp⟩
  ·cases h
theorem zjn {f:Nat} {ds:List D} {r:D} {nx:Nat} {own:List (Nat×Obj')} {mv:List Nat} (h:zcr P f (ds.map .d) [] 0 (.d r) nx own mv):za2 P f ds r:=by
 refine ⟨h.1,fun w E vs hE hr=>?_⟩
 have hm:Mods E (.of w) (zdp [] 0 0 []) (fun _=>.pointer none) act0 w:=
  ⟨⟨fun b hb hmay=>hmay.elim (fun h=>by have:w.heap.size≤b:=h;have:=hE.1 b hb;omega) (fun h=>h),hE.2.over (Over.less fun b h=>h.elim id False.elim)⟩,⟨Nat.le_refl _,fun _ _ _=>rfl⟩,fun _=>rfl,rfl,rfl,Kept.refl _,by simp [zdp],by simp [zdp],by simp [zdp],by intro t s ht;simp [zdp,zaa] at ht⟩
 have hov:Over w E w (Ex E (fun _=>Value.pointer none) []):=Over.less fun b hb=>hb.elim id fun ⟨_,_,hx,_⟩=>by cases hx
 refine (h.2 E (.of w) _ w vs rfl hm (Sms.zf1 (za6.over hov _ _ hr))).mono fun e w' he=>?_
 obtain ⟨β',v,rfl,hm',_,hs⟩:=he
 simp only [Sm] at hs
 exact ⟨v,rfl,hm'.below.below,R.over (Over.less fun b hb=>.inl hb) _ _ hs⟩
theorem zq0 {f:Nat} {args:List Sym} {ds:List D} {r:D} {own:List (Nat×Obj')} {n:Nat} (h:za2 P f ds r) (ha:allD args=some ds):zcr P f args own n (.d r) n own []:=by
 refine ⟨h.1,fun X w0 β w vs hβ hm hs=>?_⟩
 have hr:za6 w (Ex X β own) ds vs:=zxj ha hs
 refine (h.2 w (Ex X β own) vs hm.seen hr).mono fun e w' he=>?_
 obtain ⟨v,rfl,hb,hr'⟩:=he
 have hm':=hm.put hb (dst:=none) (s:=.junk) (v:=v) (by simp) (by simp [Sym.lo]) (by simp [Sm])
 exact ⟨β,v,rfl,hm',by simp [Sym.lo],by simpa [Sm] using hr'⟩
theorem orElse_some {α:Type} {x y:Option α} {r:α} (h:orElse' x y=some r):x=some r∨y=some r:=by
 unfold orElse' at h
 split at h
 ·exact .inl h
 ·exact .inr h
theorem zui (hc:zbi P call) (hag:Ag st xs) (hm:Mods X w0 st β a w) {o:Oper} {f:Operand} {args:Array Operand} {ts:Array TypeId} (ho:o.op = .call {callee:=.value f,args,argTypes:=ts})
  {n:Nat} (hd:xdst o.dst n=true) (hdn : ∀ t,o.dst=some t→t<st.n) (h:zzj Γ call xs f args.toList o.dst=some xs'):Goes P X w0 o a w (fun st'=>Ag st' xs'):=by
 unfold zzj at h
 rw [← hag.val] at h
 split at h
 ·rename_i g caps hcal
  have k1:xmut call xs g (args.toList.map st.val++caps) o.dst=some xs'→Goes P X w0 o a w (fun st'=>Ag st' xs'):=fun h=>zi5 hm ho hdn (zsj hc hag hm hcal hd h)
  have k2:zzi call xs g (args.toList.map st.val++caps) o.dst=some xs'→Goes P X w0 o a w (fun st'=>Ag st' xs'):=by
   intro h;unfold zzi at h;split at h
   ·rw [← hag.look] at h
    split at h
    ·rename_i ds b hl
     split at h
     ·rename_i r nx own' mv hr
      rw [zac] at h;obtain ⟨hsc,h⟩:=h;cases h;have hp:=zjn (hc _ _ _ _ _ hr (Sym.z0k 0 ds));refine zid hm ho hdn ?_
      unfold znd zem;rw [hcal];simp only [hl];exact .inl ⟨r,hp,fun _=>.inl hsc,hag.put hd _⟩
     ·cases h
    ·cases h
   ·cases h
  have k3 : ∀ L,zp4 call xs f args.toList o.dst L=some xs'→Goes P X w0 o a w (fun st'=>Ag st' xs'):=by
   intro L h;unfold zp4 at h;have hag1:Ag (st.frzs L) (xs.frzs L):=hag.frzs
   have hm1:Mods X w0 (st.frzs L) β a w:=hm.frzs
   rw [← hag1.val] at h;split at h
   ·rename_i g' caps' hcal'
    exact zi5 hm1 ho (fun t e=>by rw [(zia L st).2];exact hdn t e) (zsj hc hag1 hm1 hcal' hd h)
   ·cases h
  simp only at h
  split at h
  ·exact k1 h
  ·split at h
   ·rcases orElse_some h with h | h
    ·exact k2 h
    ·rcases orElse_some h with h | h
     ·exact k1 h
     ·exact k3 _ h
   ·split at h
    ·rcases orElse_some h with h | h
     ·exact k1 h
     ·exact k3 _ h
    ·rcases orElse_some h with h | h
     ·exact k3 _ h
     ·exact k1 h
 ·cases h
end
end Go.V
namespace Go.V
variable [Dr] [Ov]
open Go.RowKit
section
variable {P:Program} {Γ:XG} {call:Caller} {X:Nat→Prop} {w0:Base} {st:St} {xs xs':XS} {β:Nat→Value} {a:Act} {w:World}
theorem zuj (look:St) (id:Nat) (s:Sym) {l:List (List D)} (h:xsrc look.look id s=some l):zc3 look id s=some l:=by
 unfold xsrc at h
 split at h
 ·exact h
 ·exact h
 ·rename_i j
  split at h
  ·cases h
  ·rename_i hne
   simp only [zc3];rw [if_neg (fun e=>by rw [beq_iff.2 e] at hne;cases hne)]
   exact h
 ·rename_i j sz lo n
  split at h
  ·cases h
  ·rename_i hne
   simp only [zc3];rw [if_neg (fun e=>by rw [beq_iff.2 e] at hne;cases hne)]
   split at h
   ·rename_i T sz' rows hl
    rw [zac,Bool.and_eq_true,beq_iff,zc4] at h;rw [hl];simp only;rw [if_pos h.1];exact h.2
   ·cases h
 ·cases h
theorem zuk {n:Nat} {l:List (List D)} (h:l.all (fun r=>Nat.beq r.length n)=true) : ∀ r∈l,r.length=n:=by
 intro r hr
 exact beq_iff.1 (List.all_eq_true.1 h r hr)
theorem zkf (hg:XGood P Γ) (hc:zbi P call) (hag:Ag st xs) (hm:Mods X w0 st β a w) {o:Oper} (h:zw9 Γ call o xs=some xs'):Goes P X w0 o a w (fun st'=>Ag st' xs'):=by
 unfold zw9 at h
 rw [zac] at h
 obtain ⟨hd,h⟩:=h
 have hdt : ∀ t,o.dst=some t→t<st.n:=fun t e=>by rw [hag.n];exact (zf8 hd).1 t e
 rw [← hag.val,← hag.look] at h
 split at h
 ·rename_i T x ho
  split at h
  ·rename_i l hl
   cases h;refine zr0 hm ho hdt ?_
   unfold eBox;rw [hl];simp only;rw [hag.next];exact (hag.new _).put hd _
  ·cases h
 ·rename_i T ho
  split at h
  ·rename_i ti ht
   rw [zac] at h;obtain ⟨h1,h⟩:=h;cases h;refine zm5 hm ho (hg.ti ht) hdt ⟨h1,?_⟩
   rw [hag.next];exact (hag.new _).put hd _
  ·cases h
 ·rename_i ho
  split at h
  ·rename_i e _ _ _ _ ht
   split at h
   ·rename_i te hte
    cases h;refine zr1 hm ho hdt (e:=e) (sz:=te.size) ?_
    unfold eNil;rw [hag.next];exact (hag.new _).put hd _
   ·cases h
  ·cases h
 ·rename_i t n parts ho
  split at h
  ·rename_i e _ _ _ _ ht
   split at h
   ·rename_i te hte
    split at h
    ·rename_i l hl
     simp only at h
     have hag1:Ag (st.frzs (zfq (l.map st.val))) (xs.frzs (zfq (l.map st.val))):=hag.frzs
     rw [← hag1.val] at h;split at h
     ·rename_i rows hrows
      rw [zac] at h;simp only [Bool.and_eq_true,beq_iff,zb9,zc4] at h;obtain ⟨⟨⟨h1,h2⟩,h3⟩,h⟩:=h;cases h;refine zm8 hm ho hdt ?_
      unfold zpg;rw [hg.ti ht];simp only;rw [hg.ti hte];simp only;rw [hl];simp only;refine ⟨h1,h2,h3,?_⟩
      rw [hrows];simp only;rw [hag1.next];exact (hag1.new _).put hd _
     ·cases h
    ·cases h
   ·cases h
  ·cases h
 ·rename_i t ad x ho
  split at h
  ·rename_i ti hdn ht
   refine zm6 hm ho (hg.ti ht) hdn ?_
   unfold zk3;split at h
   ·rename_i id off had
    rw [had];simp only;split at h
    ·rename_i T cells hob
     rw [hob];simp only;split at h
     ·rename_i l hl
      rw [zac] at h;simp only [Bool.and_eq_true,beq_iff,zc4] at h;obtain ⟨⟨h1,h2⟩,h⟩:=h;cases h;rw [hl];exact ⟨h1,h2,hag.set id _⟩
     ·cases h
    ·cases h
   ·rename_i id sz i off had
    rw [had];simp only;split at h
    ·rename_i T sz' rows hob
     rw [hob];simp only;split at h
     ·rename_i l hl
      rw [hl];simp only;split at h
      ·rename_i ds hds
       rw [zac] at h;simp only [Bool.and_eq_true,beq_iff,zc4,zb9] at h;obtain ⟨⟨⟨⟨h1,h2⟩,h3⟩,h4⟩,h⟩:=h;cases h;rw [hds];exact ⟨h1,h2,h3,h4,hag.set id _⟩
      ·cases h
     ·cases h
    ·cases h
   ·cases h
  ·cases h
 ·rename_i t l c ho
  refine zpi hm ho hdt ?_
  unfold z6z;split at h
  ·rename_i e _ _ _ _ _ ln _ cn ht hl hcv
   rw [hg.ti ht,hl,hcv];simp only;split at h
   ·rename_i te hte
    rw [hg.ti hte];simp only;split at h
    ·rename_i x hx
     rw [zac] at h;simp only [Bool.and_eq_true,beq_iff,zb9,decide_eq_true_eq] at h;obtain ⟨⟨⟨⟨⟨⟨⟨h0,h1⟩,h2⟩,h3⟩,h4⟩,h5⟩,h6⟩,h⟩:=h;cases h;rw [hx];refine ⟨h0,h1,h2,h3,h4,h5,h6,?_⟩;rw [hag.next];exact (hag.new _).put hd _
    ·cases h
   ·cases h
  ·cases h
 ·rename_i t ho
  cases h;refine zjm hm ho hdt ?_
  unfold znw;rw [hag.next];exact (hag.new _).put hd _
 ·rename_i t m x v ho
  split at h
  ·rename_i id x' v' kt _ _ _ _ _ hdn hmm hx hv ht
   refine zhk hm ho hdn ?_
   unfold zgq;rw [hmm,hx,hv,hg.ti ht];simp only;split at h
   ·rename_i T rows tk hob htk
    rw [hob,hg.ti htk];simp only;split at h
    ·rename_i rows' hp
     rw [zac] at h;obtain ⟨h1,h⟩:=h;cases h;rw [hp];exact ⟨h1,hag.set _ _⟩
    ·cases h
   ·cases h
  ·cases h
 ·rename_i xs' ts ho
  split at h
  ·rename_i s x t t' hx ht
   have e1:xs' = #[s,x]:=by cases xs';simp at hx;rw [hx]
   have e2:ts = #[t,t']:=by cases ts;simp at ht;rw [ht]
   subst e1;subst e2;refine zk9 hm ho hdt ?_
   unfold zj2;split at h
   ·rename_i e _ _ _ _ hte
    rw [hg.ti hte];simp only;split at h
    ·rename_i te hte2
     rw [hg.ti hte2];simp only;split at h
     ·rename_i id hs
      rw [hs];simp only;split at h
      ·rename_i T sz rows l hob hsrc
       rw [zac] at h;simp only [Bool.and_eq_true,beq_iff,zc4,zb9] at h;obtain ⟨⟨⟨⟨⟨⟨⟨⟨⟨h1,h2⟩,h3⟩,h30⟩,h4⟩,h5⟩,h6⟩,h7⟩,h8⟩,h⟩:=h;cases h;refine ⟨h1,h2,h3,h30,?_⟩
       rw [hob,zuj st id _ hsrc];simp only;exact ⟨h4,h5,zuk h6,h7,h8,(hag.renew id _).put hd _⟩
      ·cases h
     ·rename_i hs
      rw [hs];simp only;have hag1:Ag (st.new (.arr e te.size [])) (xs.new (.arr e te.size [])):=hag.new _
      rw [← hag1.look,← hag.next] at h;split at h
      ·rename_i l hsrc
       rw [zac] at h;simp only [Bool.and_eq_true,beq_iff,zc4,zb9] at h;obtain ⟨⟨⟨⟨⟨⟨⟨h1,h2⟩,h3⟩,h30⟩,h6⟩,h7⟩,h8⟩,h⟩:=h;cases h;refine ⟨h1,h2,h3,h30,?_⟩
       rw [zuj (st.new (.arr e te.size [])) st.next _ hsrc];simp only;exact ⟨zuk h6,h7,h8,(hag1.renew st.next _).put hd _⟩
      ·cases h
     ·cases h
    ·cases h
   ·cases h
  ·cases h
 ·rename_i xs' ts ho
  split at h
  ·rename_i d s t t' hx ht
   have e1:xs' = #[d,s]:=by cases xs';simp at hx;rw [hx]
   have e2:ts = #[t,t']:=by cases ts;simp at ht;rw [ht]
   subst e1;subst e2;refine zph hm ho hdt ?_
   unfold z6y;split at h
   ·rename_i e _ _ _ _ hte
    rw [hg.ti hte];simp only;split at h
    ·rename_i te l hte2 hsrc
     rw [hg.ti hte2];simp only;rw [zac,Bool.and_eq_true,zb9] at h;obtain ⟨⟨h1,h2⟩,h⟩:=h;rw [← hag.next] at hsrc;rw [zuj st st.next _ hsrc];simp only;refine ⟨h1,zuk h2,?_⟩
     split at h
     ·rename_i hds
      cases h;rw [hds];exact hag.put hd _
     ·rename_i id sz lo n hds
      rw [hds];simp only;split at h
      ·rename_i T sz' rows hob
       rw [zac] at h;simp only [Bool.and_eq_true,beq_iff,zc4] at h;obtain ⟨⟨⟨h3,h4⟩,h5⟩,h⟩:=h;cases h;rw [hob];exact ⟨h3,h4,h5,(hag.set id _).put hd _⟩
      ·cases h
     ·rename_i id hds
      rw [hds];simp only;split at h
      ·rename_i T sz' rows hob
       rw [zac,beq_iff] at h;obtain ⟨h4,h⟩:=h;cases h;rw [hob];exact ⟨h4,(hag.set id _).put hd _⟩
      ·cases h
     ·cases h
    ·cases h
   ·cases h
  ·cases h
 ·rename_i xs' ts ho
  split at h
  ·rename_i x t hx ht
   have e1:xs' = #[x]:=by cases xs';simp at hx;rw [hx]
   have e2:ts = #[t]:=by cases ts;simp at ht;rw [ht]
   subst e1;subst e2;refine zna hm ho hdt ?_
   unfold zwa;split at h
   ·rename_i e _ _ _ _ hte
    rw [hg.ti hte];simp only;split at h
    ·rename_i te hte2
     rw [hg.ti hte2];simp only;split at h
     ·rename_i z hz
      rw [hz];simp only;rw [zac,Bool.and_eq_true,beq_iff] at h;obtain ⟨⟨h1,h2⟩,h⟩:=h;refine ⟨h1,h2,?_⟩
      split at h
      ·rename_i hds
       cases h;rw [hds];exact hag.put hd _
      ·rename_i id sz lo n hds
       rw [hds];simp only;split at h
       ·rename_i T sz' rows hob
        rw [zac] at h;simp only [Bool.and_eq_true,beq_iff,zc4] at h;obtain ⟨⟨⟨h3,h4⟩,h5⟩,h⟩:=h;cases h;rw [hob];exact ⟨h3,h4,h5,(hag.set id _).put hd _⟩
       ·cases h
      ·cases h
     ·cases h
    ·cases h
   ·cases h
  ·cases h
 ·rename_i t x ho
  split at h
  ·rename_i s ht hx
   cases h;refine znc hm ho hdt ?_
   unfold zwc;rw [hg.ti ht,hx];simp only;rw [hag.next];exact (hag.new _).put hd _
  ·cases h
 ·rename_i x ho
  split at h
  ·rename_i id hx
   split at h
   ·rename_i s pos hob
    cases h;refine zpj hm ho hdt ?_
    unfold z7a;rw [hx];simp only;rw [hob];simp only;exact (hag.set id _).put hd _
   ·cases h
  ·cases h
 ·rename_i s t x ho
  split at h
  ·rename_i y hy
   cases h;rw [← ho] at hy;exact Goes.zek hm hdt (ze1 hm o (zp6 hg hy (hag.put hd y)))
  ·split at h
   ·rename_i e _ _ _ _ _ _ _ _ hs ht
    split at h
    ·rename_i rows he hsrc
     split at h
     ·rename_i bs hbs
      cases h;refine Goes.zek hm hdt (zic hm ho ?_)
      unfold zc7;rw [hg.ti hs,hg.ti ht];simp only;rw [hg.ti he];simp only;rw [← hag.next] at hsrc;rw [zuj st st.next _ hsrc];simp only;rw [hbs];exact hag.put hd _
     ·cases h
    ·cases h
   ·rename_i e _ _ _ _ hs ht
    split at h
    ·rename_i b he hx
     obtain ⟨hb,h⟩:=zac.1 h;cases h;refine Goes.zek hm hdt (zic hm ho ?_)
     unfold zc7;rw [hg.ti hs,hg.ti ht];simp only;rw [hg.ti he,hx];simp only;exact ⟨Nat.le_of_ble_eq_true hb,hag.put hd _⟩
    ·cases h
   ·cases h
 ·rename_i f args ts ho
  exact zui hc hag hm ho hd hdt h
 ·split at h
  ·rename_i s hs
   cases h;exact Goes.zek hm hdt (ze1 hm o (zp6 hg hs (hag.put hd s)))
  ·cases h
end
end Go.V

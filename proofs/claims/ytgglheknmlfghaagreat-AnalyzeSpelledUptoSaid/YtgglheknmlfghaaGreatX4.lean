/- A program logic of my own over the kit: part X4. It needs no conditions. -/
import Derived.Test.YtgglheknmlfghaaGreatV31
set_option linter.unusedVariables false
set_option linter.unusedSimpArgs false
set_option linter.unusedSectionVars false
namespace Go.V
variable [Dr] [Ov]
open Go.RowKit
inductive Tr where
 | leaf
 | node (v:Option Sym) (l r:Tr)
 deriving Inhabited
def Tr.get:Nat→Tr→Nat→Option Sym
 | 0,_,_=>none
 | _+1,.leaf,_=>none
 | k+1,.node v l r,t=>match t with
  | 0=>v
  | u+1=>match Nat.beq (u%2) 0 with
   | true=>Tr.get k l (u/2)
   | false=>Tr.get k r (u/2)
def Tr.put:Nat→Tr→Nat→Sym→Tr
 | 0,x,_,_=>x
 | k+1,x,t,s=>match x with
  | .leaf=>match t with
   | 0=>.node (some s) .leaf .leaf
   | u+1=>match Nat.beq (u%2) 0 with
    | true=>.node none (Tr.put k .leaf (u/2) s) .leaf
    | false=>.node none .leaf (Tr.put k .leaf (u/2) s)
  | .node v l r=>match t with
   | 0=>.node (some s) l r
   | u+1=>match Nat.beq (u%2) 0 with
    | true=>.node v (Tr.put k l (u/2) s) r
    | false=>.node v l (Tr.put k r (u/2) s)
def Tr.map (f:Sym→Sym):Tr→Tr
 | .leaf=>.leaf
 | .node v l r=>.node (v.map f) (Tr.map f l) (Tr.map f r)
def ziy (i:Nat) (l:List Nat):List Nat:=match l.any (Nat.beq i) with
 | true=>l
 | false=>l++[i]
structure XS where
 n:Nat
 next:Nat
 slots:Tr
 own:List (Nat×Obj')
 base:Nat
 moved:List Nat
 deriving Inhabited
def dep:Nat:=12
def XS.get (xs:XS) (t:Nat):Option Sym:=xs.slots.get dep t
def zju {α:Type}:List (Nat×α)→Nat→Option α
 | [],_=>none
 | (k,v)::r,t=>match Nat.beq k t with
  | true=>some v
  | false=>zju r t
def XS.look (xs:XS) (id:Nat):Option Obj':=zju xs.own id
def XS.val (xs:XS):Operand→Sym
 | .tmp t=>match xs.get t with
  | some s=>s
  | none=>.junk
 | .const v=>ofConst v
 | .func f=>.fn f []
 | .global g=>match zab GT g with
  | some l=>.d (.ptr l)
  | none=>.junk
def XS.put (xs:XS) (dst:Option Tmp) (s:Sym):XS:=
 match dst with
 | some t=>{xs with slots:=xs.slots.put dep t s}
 | none=>xs
def XS.new (xs:XS) (o:Obj'):XS:={xs with next:=xs.next+1,own:=(xs.next,o)::xs.own}
def xset (id:Nat) (v:Obj'):List (Nat×Obj')→List (Nat×Obj')
 | []=>[(id,v)]
 | (k,u)::r=>match Nat.beq k id with
  | true=>(k,v)::r
  | false=>(k,u)::xset id v r
def XS.set (xs:XS) (id:Nat) (o:Obj'):XS:={xs with own:=xset id o xs.own}
def XS.frz (xs:XS) (id:Nat):XS:=
 match xs.look id with
 | some (.arr _ _ rows)=>{xs with slots:=xs.slots.map (thaw id (.sl rows)),own:=zcl id (.sl rows) xs.own}
 | some (.map _ rows)=>{xs with slots:=xs.slots.map (thaw id (.mp rows)),own:=zcl id (.mp rows) xs.own}
 | _=>xs
def XS.frzs (xs:XS):List Nat→XS
 | []=>xs
 | id::r=>(xs.frz id).frzs r
def XS.renew (xs:XS) (id:Nat) (o:Obj'):XS:={xs with moved:=(match Nat.blt id xs.base with | true=>ziy id xs.moved | false=>xs.moved),slots:=xs.slots.map (zbf id),own:=zca id o xs.own}
structure XR where
 s:Sym
 nx:Nat
 own:List (Nat×Obj')
 mv:List Nat
structure XG where
 ti:Nat→Option TI
 zf:Nat→Bool
 ek:Nat→Option (List TK)
 fn:Nat→Option (Nat×Code×List ResultVar)
 sc:Nat→Bool
 kn:Nat→Option (List D→Option D)
 kc:Nat→Option (List Sym→List (Nat×Obj')→Nat→Option XR):=fun _=>none
 mf:Nat→Bool:=fun _=>false
def zau {α:Type} (b:Bool) (x:Option α):Option α:=match b with
 | true=>x
 | false=>none
def z1t (ti:TI) (l:List D):Option Sym:=
 match ti.agg with
 | true=>zau (Nat.ble ti.size l.length) (some (.d (.agg (l.take ti.size))))
 | false=>match l with
  | x::_=>some (.d x)
  | []=>none
def z90 (ti:TI) (l:List Sym):Option Sym:=
 match ti.agg with
 | true=>zau (Nat.ble ti.size l.length) (some (zlf (l.take ti.size)))
 | false=>match l with
  | x::_=>some x
  | []=>none
def yez (look:Nat→Option Obj') (ti:TI):Sym→Option Sym
 | .d (.ptr l)=>z1t ti l
 | .bp id off=>match look id with
  | some (.box _ cells)=>z90 ti (cells.drop off)
  | _=>none
 | .ap id sz i off=>match look id with
  | some (.arr _ sz' rows)=>zau (Nat.beq sz sz'&&Nat.blt i rows.length) (z1t ti ((rows.getD i []).drop off))
  | _=>none
 | _=>none
def zm6 (kd:TK) (x:Sym) (f:Nat):Option Sym:=
 match kd with
 | .struct fs=>match fs[f]?,x with
  | some (off,sz,_),.d (.ptr l)=>zau (!Nat.beq sz 0) (some (.d (.ptr (l.drop off))))
  | some (off,sz,_),.bp id o=>zau (!Nat.beq sz 0) (some (.bp id (o+off)))
  | some (off,sz,_),.ap id s i o=>zau (!Nat.beq sz 0) (some (.ap id s i (o+off)))
  | _,_=>none
 | _=>none
def z92 (kd:TK) (x:Sym) (f:Nat):Option Sym:=
 match kd with
 | .struct fs=>match fs[f]?,x with
  | some (off,sz,agg),.d (.agg l)=>match agg with
   | true=>zau (Nat.ble (off+sz) l.length) (some (.d (.agg ((l.drop off).take sz))))
   | false=>match l.drop off with
    | x::_=>some (.d x)
    | []=>none
  | some (off,sz,agg),.agg l=>match agg with
   | true=>zau (Nat.ble (off+sz) l.length) (some (zlf ((l.drop off).take sz)))
   | false=>match l.drop off with
    | x::_=>some x
    | []=>none
  | _,_=>none
 | _=>none
def zm7 (look:Nat→Option Obj') (esz:Nat):Sym→Sym→Option Sym
 | .d (.sl l),.d (.int _ n)=>zau (decide (0≤n)&&decide (n<l.length)&&Nat.beq (l.getD n.toNat []).length esz) (some (.d (.ptr (l.getD n.toNat []))))
 | .ar id,.d (.int _ n)=>match look id with
  | some (.arr _ sz rows)=>zau (decide (0≤n)&&decide (n<rows.length)&&Nat.beq sz esz) (some (.ap id sz n.toNat 0))
  | _=>none
 | _,_=>none
def z94:Sym→Sym→Option Sym
 | .d (.str s),.d (.int _ n)=>zau (decide (0≤n)&&decide (n<s.size)) (some (.d (.int .u8 (byteAt s n))))
 | _,_=>none
def zqp (kd:IntKind) (n:Int):Option Sym:=
 match kd with
 | .i64=>zau (decide (-9223372036854775808≤n)&&decide (n≤9223372036854775807)) (some (.d (.int .i64 n)))
 | kd=>some (.d (.int kd (kd.wrap n)))
def zzw (kd:IntKind) (a b:Int):BinOp→Option Sym
 | .add=>zqp kd (a+b)
 | .sub=>zqp kd (a-b)
 | .mul=>zqp kd (a*b)
 | .quo=>zau (!decide (b=0)) (zqp kd (a.tdiv b))
 | .rem=>zau (!decide (b=0)) (some (.d (.int kd (a.tmod b))))
 | .and=>some (.d (.int kd (zhb .and kd a b)))
 | .or=>some (.d (.int kd (zhb .or kd a b)))
 | .xor=>some (.d (.int kd (zhb .xor kd a b)))
 | .andNot=>some (.d (.int kd (zhb .andNot kd a b)))
 | .eql=>some (.d (.bool (decide (a=b))))
 | .neq=>some (.d (.bool (!decide (a=b))))
 | .lss=>some (.d (.bool (decide (a<b))))
 | .leq=>some (.d (.bool (decide (a≤b))))
 | .gtr=>some (.d (.bool (decide (b<a))))
 | .geq=>some (.d (.bool (decide (b≤a))))
 | _=>none
def bl (a:ByteArray):List UInt8:=a.data.toList
def zzx (a b:ByteArray):BinOp→Option Sym
 | .add=>zau (Nat.ble (a.size+b.size) 9223372036854775807) (some (.d (.str (a++b))))
 | .eql=>some (.d (.bool (bl a==bl b)))
 | .neq=>some (.d (.bool !(bl a==bl b)))
 | .lss=>some (.d (.bool (Op.bytesLess (bl a) (bl b))))
 | .leq=>some (.d (.bool (Op.bytesLess (bl a) (bl b) || bl a==bl b)))
 | .gtr=>some (.d (.bool (!(Op.bytesLess (bl a) (bl b) || bl a==bl b))))
 | .geq=>some (.d (.bool (!Op.bytesLess (bl a) (bl b))))
 | _=>none
def zus (a b:Bool):BinOp→Option Sym
 | .eql=>some (.d (.bool (a==b)))
 | .neq=>some (.d (.bool (!(a==b))))
 | _=>none
def xbin (op:BinOp):Sym→Sym→Option Sym
 | .d (.int ka a),.d (.int kb b)=>match op with
  | .shl=>zau (decide (0≤b)) (some (.d (.int ka (zjy .shl ka a b))))
  | .shr=>zau (decide (0≤b)) (some (.d (.int ka (zjy .shr ka a b))))
  | op=>zau (decide (ka=kb)) (zzw ka a b op)
 | .d (.str a),.d (.str b)=>zzx a b op
 | .d (.bool a),.d (.bool b)=>zus a b op
 | .d (.sl (_::_)),.nils=>match op with
  | .eql=>some (.d (.bool false))
  | .neq=>some (.d (.bool true))
  | _=>none
 | .nils,.nils=>match op with
  | .eql=>some (.d (.bool true))
  | .neq=>some (.d (.bool false))
  | _=>none
 | _,_=>none
def zzy (Γ:XG) (op:BinOp) (t:Nat):Sym→Sym→Option Sym
 | .d (.agg a),.d (.agg b)=>match Γ.ek t with
  | some ks=>match zbp ks a b with
   | some r=>match op with
    | .eql=>some (.d (.bool r))
    | .neq=>some (.d (.bool (!r)))
    | _=>none
   | none=>none
  | none=>none
 | _,_=>none
def xun (op:UnOp):Sym→Option Sym
 | .d (.bool b)=>match op with
  | .not=>some (.d (.bool !b))
  | _=>none
 | .d (.int kd n)=>match op with
  | .neg=>zqp kd (0-n)
  | _=>none
 | _=>none
def zut:TK→Sym→Option Sym
 | .int kd,.d (.int _ n)=>some (.d (.int kd (kd.wrap n)))
 | .str,.d (.str s)=>some (.d (.str s))
 | _,_=>none
def zuu:Sym→Nat→Option Sym
 | .d (.tup l),i=>match l[i]? with
  | some x=>some (.d x)
  | none=>none
 | .tup l,i=>l[i]?
 | _,_=>none
def xlen (look:Nat→Option Obj'):TK→Sym→Option Sym
 | .slice _,.d (.sl l)=>some (.d (.int .i64 l.length))
 | .str,.d (.str s)=>some (.d (.int .i64 s.size))
 | .slice _,.nils=>some (.d (.int .i64 0))
 | .slice _,.ar id=>match look id with
  | some (.arr _ _ rows)=>some (.d (.int .i64 rows.length))
  | _=>none
 | .slice _,.aS _ _ _ n=>some (.d (.int .i64 n))
 | _,_=>none
def z95 (Γ:XG) (look:Nat→Option Obj'):TK→Sym→Option Sym→Option Sym→Option Sym
 | .slice e,.d (.sl l),lo,hi=>match Γ.ti e,bnd 0 lo,bnd l.length hi with
  | some te,some o,some h=>zau (decide (0≤o)&&decide (o≤h)&&decide (h≤l.length)&&l.all (fun r=>Nat.beq r.length te.size)) (some (.d (.sl ((l.take h.toNat).drop o.toNat))))
  | _,_,_=>none
 | .slice e,.ar id,lo,hi=>match look id,Γ.ti e with
  | some (.arr _ sz rows),some te=>match bnd 0 lo,bnd rows.length hi with
   | some o,some h=>zau (decide (0≤o)&&decide (o≤h)&&decide (h≤rows.length)&&Nat.beq sz te.size) (some (match decide (o=h) with | true=>.d (.sl []) | false=>.aS id sz o.toNat (h.toNat-o.toNat)))
   | _,_=>none
  | _,_=>none
 | .str,.d (.str s),lo,hi=>match bnd 0 lo,bnd s.size hi with
  | some o,some h=>zau (decide (0≤o)&&decide (o≤h)&&decide (h≤s.size)) (some (.d (.str (s.extract o.toNat h.toNat))))
  | _,_=>none
 | _,_,_,_=>none
def xnil:Sym→Option Sym
 | .d (.ptr l)=>some (.d (.ptr l))
 | .bp id off=>some (.bp id off)
 | .ap id s i off=>some (.ap id s i off)
 | .fn f l=>some (.fn f l)
 | .d (.fn f l)=>some (.d (.fn f l))
 | _=>none
def ye0 (ti:TI):Option Sym:=
 match ti.agg with
 | true=>zau (ti.zero.all (·.oneCell')) (some (zlf (ti.zero.map ofConst)))
 | false=>match ti.zero with
  | [v]=>some (ofConst v)
  | _=>none
def zz0 (look:Nat→Option Obj') (kk:TK) (te:TI) (commaOk:Bool) (m x:Sym):Option Sym:=
 match zif look m,x with
 | some rows,.d x=>zau (zfw kk x) (match zn9 x rows with
  | some (some v)=>some (match commaOk with | true=>.d (.tup [v,.bool true]) | false=>.d v)
  | some none=>match ye0 te with
   | some z=>some (match commaOk with | true=>.tup [z,.d (.bool false)] | false=>z)
   | none=>none
  | none=>none)
 | _,_=>none
def z96 (ti:TI) (parts:List (Nat×Sym)):Option Sym:=
 match ti.kind with
 | .struct fs=>zau (ti.zero.all (·.oneCell')) (match zzb fs (ti.zero.map ofConst) parts with
  | some out=>some (zpx out)
  | none=>none)
 | _=>none
def xop (Γ:XG) (look:Nat→Option Obj') (ρ:Operand→Sym) (op:Op):Option Sym:=
 match op with
 | .move x=>some (ρ x)
 | .assign x=>some (ρ x)
 | .pick c a b=>match ρ c with
  | .d (.bool true)=>some (ρ a)
  | .d (.bool false)=>some (ρ b)
  | _=>none
 | .load t x=>match Γ.ti t with
  | some ti=>yez look ti (ρ x)
  | none=>none
 | .fieldAddr t x f=>match Γ.ti t with
  | some ti=>zm6 ti.kind (ρ x) f
  | none=>none
 | .field t x f=>match Γ.ti t with
  | some ti=>z92 ti.kind (ρ x) f
  | none=>none
 | .indexAddr t x i=>match Γ.ti t with
  | some ⟨.slice e,_,_,_,_⟩=>match Γ.ti e with
   | some te=>zm7 look te.size (ρ x) (ρ i)
   | none=>none
  | _=>none
 | .index t x i=>match Γ.ti t with
  | some ⟨.str,_,_,_,_⟩=>z94 (ρ x) (ρ i)
  | _=>none
 | .slice t x lo hi none=>match Γ.ti t with
  | some ti=>z95 Γ look ti.kind (ρ x) (lo.map ρ) (hi.map ρ)
  | none=>none
 | .binOp op t x y _=>match Γ.ti t with
  | some ti=>match ρ x,ρ y with
   | .d (.agg a),.d (.agg b)=>zzy Γ op t (.d (.agg a)) (.d (.agg b))
   | a,b=>zau (zki ti.kind a) (xbin op a b)
  | none=>none
 | .unOp op _ x=>xun op (ρ x)
 | .convert s t x=>match Γ.ti s,Γ.ti t with
  | some _,some ti=>zut ti.kind (ρ x)
  | _,_=>none
 | .extract t i=>zuu (ρ t) i
 | .lookup t m x c=>match Γ.ti t with
  | some ⟨.map kt et,_,_,_,_⟩=>match Γ.ti kt,Γ.ti et with
   | some tk,some te=>zau (Γ.zf et) (zz0 look tk.kind te c (ρ m) (ρ x))
   | _,_=>none
  | _=>none
 | .nilCheck x=>xnil (ρ x)
 | .call {callee:=.builtin .len,args:=a,argTypes:=ts}=>match a.toList,ts.toList with
  | [x],[t]=>match Γ.ti t with
   | some ti=>xlen look ti.kind (ρ x)
   | none=>none
  | _,_=>none
 | .call {callee:=.builtin .max,args:=a,argTypes:=_}=>match a.toList.map ρ with
  | [.d (.int ka a),.d (.int _ b)]=>some (.d (.int ka (match decide (b>a) with | true=>b | false=>a)))
  | _=>none
 | .call {callee:=.builtin .min,args:=a,argTypes:=_}=>match a.toList.map ρ with
  | [.d (.int ka a),.d (.int _ b)]=>some (.d (.int ka (match decide (b<a) with | true=>b | false=>a)))
  | _=>none
 | .build t parts=>match Γ.ti t with
  | some ti=>z96 ti (parts.toList.map fun (i,x)=>(i,ρ x))
  | none=>none
 | .buildSlice t n parts=>match Γ.ti t with
  | some ⟨.slice e,_,_,_,_⟩=>match Γ.ti e,inOrder 0 (parts.toList.map fun (i,x)=>(i,ρ x)) with
   | some te,some xs=>match rowsOf te.size xs with
    | some rows=>zau (Nat.beq xs.length n&&Nat.blt 0 te.size&&Nat.ble (n*te.size) 16777216) (some (.d (.sl rows)))
    | none=>none
   | _,_=>none
  | _=>none
 | .makeFunc (.func f) first captured=>match first.toList with
  | []=>some (.fn f (captured.toList.map ρ))
  | _=>none
 | _=>none
abbrev Caller:=Nat→List Sym→List (Nat×Obj')→Nat→Option XR
mutual
def zl6:Sym→List Nat→List Nat
 | .bp i _,l=>ziy i l
 | .ar i,l=>ziy i l
 | .ap i _ _ _,l=>ziy i l
 | .aS i _ _ _,l=>ziy i l
 | .av i _ _ _,l=>ziy i l
 | .yd i,l=>ziy i l
 | .mp i,l=>ziy i l
 | .tup s,l=>zd4 s l
 | .agg s,l=>zd4 s l
 | .fn _ s,l=>zd4 s l
 | _,l=>l
def zd4:List Sym→List Nat→List Nat
 | [],l=>l
 | s::r,l=>zd4 r (zl6 s l)
end
def reach (look:Nat→Option Obj'):Nat→List Nat→List Nat→List Nat
 | 0,_,acc=>acc
 | _+1,[],acc=>acc
 | k+1,i::r,acc=>match look i with
  | some (.box _ cells)=>
   let acc':=zd4 cells acc
   reach look k (r++acc'.drop acc.length) acc'
  | some (.raw _ cells)=>
   let acc':=zd4 cells acc
   reach look k (r++acc'.drop acc.length) acc'
  | _=>reach look k r acc
mutual
def yf9:Sym→List Nat
 | .ar i=>[i]
 | .agg l=>zz1 l
 | _=>[]
def zz1:List Sym→List Nat
 | []=>[]
 | s::r=>yf9 s++zz1 r
end
mutual
def yga:Sym→List Nat→List Nat
 | .bp i _,l=>ziy i l
 | .ap i _ _ _,l=>ziy i l
 | .aS i _ _ _,l=>ziy i l
 | .av i _ _ _,l=>ziy i l
 | .yd i,l=>ziy i l
 | .mp i,l=>ziy i l
 | .tup s,l=>ziz s l
 | .agg s,l=>ziz s l
 | .fn _ s,l=>zd4 s l
 | _,l=>l
def ziz:List Sym→List Nat→List Nat
 | [],l=>l
 | s::r,l=>ziz r (yga s l)
end
def zby (ids:List Nat) (i:Nat):Nat:=match ids with
 | []=>i
 | j::r=>match Nat.beq i j with
  | true=>0
  | false=>Nat.succ (zby r i)
mutual
def innB (ids:List Nat):Sym→Bool
 | .bp i _=>ids.any (Nat.beq i)
 | .ar i=>ids.any (Nat.beq i)
 | .ap i _ _ _=>ids.any (Nat.beq i)
 | .aS i _ _ _=>ids.any (Nat.beq i)
 | .av i _ _ _=>ids.any (Nat.beq i)
 | .yd i=>ids.any (Nat.beq i)
 | .mp i=>ids.any (Nat.beq i)
 | .tup l=>zkw ids l
 | .agg l=>zkw ids l
 | .fn _ l=>zkw ids l
 | _=>true
def zkw (ids:List Nat):List Sym→Bool
 | []=>true
 | s::r=>innB ids s&&zkw ids r
end
def innO (ids:List Nat):Obj'→Bool
 | .box _ cells=>zkw ids cells
 | .raw _ cells=>zkw ids cells
 | _=>true
def nodupB:List Nat→Bool
 | []=>true
 | i::r=>!r.any (Nat.beq i)&&nodupB r
def zxr (look:Nat→Option Obj') (ids:List Nat):Nat→List Nat→Option (List (Nat×Obj'))
 | _,[]=>some []
 | k,i::r=>match look i with
  | some o=>match innO ids o with
   | true=>match zxr look ids (k+1) r with
    | some l=>some ((k,zcm (zby ids) o)::l)
    | none=>none
   | false=>none
  | none=>none
def XS.after (xs:XS) (ids:List Nat) (nx:Nat) (own':List (Nat×Obj')) (mv:List Nat):XS:=
 {xs with next:=xs.next+(nx-ids.length),slots:=(match mv with | []=>xs.slots | _=>xs.slots.map (zar (mv.map (rho' ids xs.next)))),own:=zg0 (rho' ids xs.next) own'++zdb ids (mv.map (rho' ids xs.next)) xs.own,moved:=mv.map (rho' ids xs.next)++xs.moved}
def xmut (call:Caller) (xs:XS) (g:Nat) (aS:List Sym) (dst:Option Tmp):Option XS:=
 let roots:=zd4 aS []
 let ids:=reach xs.look 1000 roots roots
 match zau (nodupB ids&&zkw ids aS) (zxr xs.look ids 0 ids) with
 | some own0=>match call g (rens (zby ids) aS) own0 ids.length with
  | some r=>some ((xs.after ids r.nx r.own r.mv).put dst (ren (rho' ids xs.next) r.s))
  | none=>none
 | none=>none
def ycs:List Sym→Bool
 | []=>true
 | .bp _ _::_=>false
 | .ap _ _ _ _::_=>false
 | .aS _ _ _ _::_=>false
 | .yd _::_=>false
 | .mp _::_=>false
 | .tup l::r=>(ziz l []).isEmpty&&ycs r
 | .agg l::r=>(ziz l []).isEmpty&&ycs r
 | _::r=>ycs r
def orElse' {α:Type} (x y:Option α):Option α:=match x with
 | some r=>some r
 | none=>y
def zz2 (call:Caller) (xs:XS) (g:Nat) (aS:List Sym) (dst:Option Tmp):Option XS:=
 match (ziz aS []).isEmpty with
 | true=>match zid xs.look aS with
  | some (ds,_)=>match call g (ds.map .d) [] 0 with
   | some ⟨.d r,_,_,_⟩=>zau r.scalar (some (xs.put dst (.d r)))
   | _=>none
  | none=>none
 | false=>none
def zqq (call:Caller) (xs:XS) (f:Operand) (args:List Operand) (dst:Option Tmp) (L:List Nat):Option XS:=
 match zbi ((xs.frzs L).val f) with
 | some (g',caps')=>xmut call (xs.frzs L) g' (args.map (xs.frzs L).val++caps') dst
 | none=>none
def zz3 (Γ:XG) (call:Caller) (xs:XS) (f:Operand) (args:List Operand) (dst:Option Tmp):Option XS:=
 match zbi (xs.val f) with
 | some (g,caps)=>
  let aS:=args.map xs.val++caps
  match zz1 aS with
  | []=>xmut call xs g aS dst
  | ars=>
   let pr:=reach xs.look 1000 (ziz aS []) (ziz aS [])
   let L:=ars.filter fun i=>!pr.any (Nat.beq i)
   match Γ.sc g&&ycs aS with
   | true=>orElse' (zz2 call xs g aS dst) (orElse' (xmut call xs g aS dst) (zqq call xs f args dst L))
   | false=>match Γ.mf g with
    | true=>orElse' (xmut call xs g aS dst) (zqq call xs f args dst L)
    | false=>orElse' (zqq call xs f args dst L) (xmut call xs g aS dst)
 | none=>none
def xsrc (look:Nat→Option Obj') (id:Nat):Sym→Option (List (List D))
 | .d (.sl l)=>some l
 | .nils=>some []
 | .ar j=>match Nat.beq j id with
  | true=>none
  | false=>match look j with
   | some (.arr _ _ rows)=>some rows
   | _=>none
 | .aS j sz lo n=>match Nat.beq j id with
  | true=>none
  | false=>match look j with
   | some (.arr _ sz' rows)=>zau (Nat.beq sz sz'&&Nat.ble (lo+n) rows.length) (some ((rows.drop lo).take n))
   | _=>none
 | _=>none
def xdst (dst:Option Tmp) (n:Nat):Bool:=match dst with
 | some t=>Nat.blt t n&&Nat.blt t 4095
 | none=>true
def zxs (Γ:XG) (call:Caller) (o:Oper) (xs:XS):Option XS:=
 zau (xdst o.dst xs.n) <|
 match o.op with
 | .box T x=>match zbd (xs.val x) with
  | some l=>some ((xs.new (.box T l)).put o.dst (.bp xs.next 0))
  | none=>none
 | .alloc T=>match Γ.ti T with
  | some ti=>zau (ti.zero.all (·.oneCell')) (some ((xs.new (.box T (ti.zero.map ofConst))).put o.dst (.bp xs.next 0)))
  | none=>none
 | .assign (.const (.slice none 0 0))=>match Γ.ti o.type with
  | some ⟨.slice e,_,_,_,_⟩=>match Γ.ti e with
   | some te=>some ((xs.new (.arr e te.size [])).put o.dst (.ar xs.next))
   | none=>none
  | _=>none
 | .buildSlice t n parts=>match Γ.ti t with
  | some ⟨.slice e,_,_,_,_⟩=>match Γ.ti e with
   | some te=>match inOrder 0 parts.toList with
    | some l=>
     let xs':=xs.frzs (zfy (l.map xs.val))
     match rowsOf te.size (l.map xs'.val) with
     | some rows=>zau (Nat.beq l.length n&&Nat.blt 0 te.size&&Nat.ble (n*te.size) 16777216) (some ((xs'.new (.arr e te.size rows)).put o.dst (.ar xs'.next)))
     | none=>none
    | none=>none
   | none=>none
  | _=>none
 | .store t ad x=>match o.dst,Γ.ti t with
  | none,some ti=>match xs.val ad with
   | .bp id off=>match xs.look id with
    | some (.box T cells)=>match zbd (xs.val x) with
     | some l=>zau (Nat.beq l.length ti.size&&Nat.ble (off+l.length) cells.length) (some (xs.set id (.box T (splice cells off l))))
     | none=>none
    | _=>none
   | .ap id sz i off=>match xs.look id with
    | some (.arr T sz' rows)=>match zbd (xs.val x) with
     | some l=>match allD l with
      | some ds=>zau (Nat.beq sz sz'&&Nat.blt i rows.length&&Nat.beq ds.length ti.size&&Nat.ble (off+ds.length) (rows.getD i []).length) (some (xs.set id (.arr T sz (rows.set i (splice (rows.getD i []) off ds)))))
      | none=>none
     | none=>none
    | _=>none
   | _=>none
  | _,_=>none
 | .makeSlice t l c=>match Γ.ti t,xs.val l,xs.val c with
  | some ⟨.slice e,_,_,_,_⟩,.d (.int _ l),.d (.int _ c)=>match Γ.ti e with
   | some te=>match allD (te.zero.map ofConst) with
    | some x=>zau (Nat.blt 0 te.size&&Nat.beq te.zero.length te.size&&te.zero.all (·.oneCell')&&decide (0≤l)&&decide (l≤c)&&decide ((te.bytes:Int)*c≤281474976710656)&&decide (c≤(maxLen:Int))) (some ((xs.new (.arr e te.size (List.replicate l.toNat x))).put o.dst (.ar xs.next)))
    | none=>none
   | none=>none
  | _,_,_=>none
 | .makeMap t none=>some ((xs.new (.map t [])).put o.dst (.mp xs.next))
 | .mapUpdate t m x v=>match o.dst,xs.val m,xs.val x,unD (xs.val v),Γ.ti t with
  | none,.mp id,.d x,some v,some ⟨.map kt _,_,_,_,_⟩=>match xs.look id,Γ.ti kt with
   | some (.map T rows),some tk=>match putD x v rows with
    | some rows'=>zau (zfw tk.kind x) (some (xs.set id (.map T rows')))
    | none=>none
   | _,_=>none
  | _,_,_,_,_=>none
 | .call {callee:=.builtin .append,args:=xs',argTypes:=ts}=>match xs'.toList,ts.toList with
  | [s,x],[t,t']=>match Γ.ti t with
   | some ⟨.slice e,_,_,_,_⟩=>match Γ.ti e with
    | some te=>match xs.val s with
     | .ar id=>match xs.look id,xsrc xs.look id (xs.val x) with
      | some (.arr T sz rows),some l=>zau (Nat.beq t' t&&Nat.blt 0 te.size&&Nat.beq te.zero.length te.size&&te.zero.all (·.oneCell')&&Nat.beq T e&&Nat.beq sz te.size&&l.all (fun r=>Nat.beq r.length te.size)&&Nat.ble ((rows.length+l.length)*te.bytes) 140737488355328&&Nat.ble (rows.length+l.length) maxLen)
        (some ((xs.renew id (.arr e te.size (rows++l))).put o.dst (.ar id)))
      | _,_=>none
     | .nils=>match xsrc (xs.new (.arr e te.size [])).look xs.next (xs.val x) with
      | some l=>zau (Nat.beq t' t&&Nat.blt 0 te.size&&Nat.beq te.zero.length te.size&&te.zero.all (·.oneCell')&&l.all (fun r=>Nat.beq r.length te.size)&&Nat.ble (l.length*te.bytes) 140737488355328&&Nat.ble l.length maxLen)
        (some (((xs.new (.arr e te.size [])).renew xs.next (.arr e te.size l)).put o.dst (.ar xs.next)))
      | none=>none
     | _=>none
    | none=>none
   | _=>none
  | _,_=>none
 | .call {callee:=.builtin .copy,args:=xs',argTypes:=ts}=>match xs'.toList,ts.toList with
  | [d,s],[t,_]=>match Γ.ti t with
   | some ⟨.slice e,_,_,_,_⟩=>match Γ.ti e,xsrc xs.look xs.next (xs.val s) with
    | some te,some l=>zau (Nat.blt 0 te.size&&l.all (fun r=>Nat.beq r.length te.size)) (match xs.val d with
     | .d (.sl [])=>some (xs.put o.dst (.d (.int .i64 0)))
     | .aS id sz lo n=>match xs.look id with
      | some (.arr T sz' rows)=>zau (Nat.beq sz te.size&&Nat.beq sz' te.size&&Nat.ble (lo+n) rows.length) (some ((xs.set id (.arr T sz' (splice rows lo (l.take n)))).put o.dst (.d (.int .i64 ((l.take n).length:Nat)))))
      | _=>none
     | .ar id=>match xs.look id with
      | some (.arr T sz' rows)=>zau (Nat.beq sz' te.size) (some ((xs.set id (.arr T sz' (splice rows 0 (l.take rows.length)))).put o.dst (.d (.int .i64 ((l.take rows.length).length:Nat)))))
      | _=>none
     | _=>none)
    | _,_=>none
   | _=>none
  | _,_=>none
 | .call {callee:=.builtin .clear,args:=xs',argTypes:=ts}=>match xs'.toList,ts.toList with
  | [x],[t]=>match Γ.ti t with
   | some ⟨.slice e,_,_,_,_⟩=>match Γ.ti e with
    | some te=>match allD (te.zero.map ofConst) with
     | some z=>zau (te.zero.all (·.oneCell')&&Nat.beq te.zero.length te.size) (match xs.val x with
      | .d (.sl [])=>some (xs.put o.dst (.d (.tup [])))
      | .aS id sz lo n=>match xs.look id with
       | some (.arr T sz' rows)=>zau (Nat.beq sz te.size&&Nat.beq sz' te.size&&Nat.ble (lo+n) rows.length) (some ((xs.set id (.arr T sz' (splice rows lo (List.replicate n z)))).put o.dst (.d (.tup []))))
       | _=>none
      | _=>none)
     | none=>none
    | none=>none
   | _=>none
  | _,_=>none
 | .range t x=>match Γ.ti t,xs.val x with
  | some ⟨.str,_,_,_,_⟩,.d (.str s)=>some ((xs.new (.raw (.it s 0) [])).put o.dst (.bp xs.next 0))
  | _,_=>none
 | .next x true=>match xs.val x with
  | .bp id 0=>match xs.look id with
   | some (.raw (.it s pos) [])=>match z1f s pos with
    | (pos',y)=>some ((xs.set id (.raw (.it s pos') [])).put o.dst (.d y))
   | _=>none
  | _=>none
 | .convert s t x=>match xop Γ xs.look xs.val (.convert s t x) with
  | some y=>some (xs.put o.dst y)
  | none=>match Γ.ti s,Γ.ti t with
   | some ⟨.slice e,_,_,_,_⟩,some ⟨.str,_,_,_,_⟩=>match Γ.ti e,xsrc xs.look xs.next (xs.val x) with
    | some ⟨.int .u8,_,_,_,_⟩,some rows=>match bytesOf rows with
     | some bs=>some (xs.put o.dst (.d (.str ⟨bs.toArray⟩)))
     | none=>none
    | _,_=>none
   | some ⟨.str,_,_,_,_⟩,some ⟨.slice e,_,_,_,_⟩=>match Γ.ti e,xs.val x with
    | some ⟨.int .u8,_,_,_,_⟩,.d (.str b)=>zau (Nat.ble b.size maxLen) (some (xs.put o.dst (.d (.sl (za7 b)))))
    | _,_=>none
   | _,_=>none
 | .call {callee:=.value f,args:=xs',argTypes:=_}=>zz3 Γ call xs f xs'.toList o.dst
 | op=>match xop Γ xs.look xs.val op with
  | some s=>some (xs.put o.dst s)
  | none=>none
abbrev Runner:=Code→XS→Option (DE×XS)
def z1u:List Nat→List Sym→Tr→Tr
 | p::ps,s::ss,t=>z1u ps ss (t.put dep p s)
 | _,_,t=>t
def zuv:Nat→List Sym→Tr→Tr
 | _,[],t=>t
 | k,s::r,t=>zuv (k+1) r (t.put dep k s)
def zxt (n:Nat) (ids:List Nat) (x:Nat×Obj'):Bool:=Nat.blt x.1 n || ids.any (Nat.beq x.1)
def zcx:DE→Option Code
 | .normal=>none
 | .ret=>some .ret
 | .exit i=>some (.exit i)
def zfo:DE→LoopState
 | .normal=>.ready
 | _=>.done
def ze6:DE→Bool
 | .normal=>true
 | _=>false
def zxu (run:Runner) (id:Nat) (args:List Sym) (own:List (Nat×Obj')) (n:Nat):Option XR:=
 match zju own id with
 | some (.raw (.lp ps a b .ready none) cells)=>match zau (Nat.beq args.length ps.size&&ps.toList.all (fun p=>Nat.blt p cells.length)&&Nat.blt cells.length 4000)
   (run a ⟨cells.length,n,z1u ps.toList args (zuv 0 cells .leaf),own,n,[]⟩) with
  | some (.normal,xs1)=>match zau (Nat.beq xs1.base n && !xs1.moved.any (Nat.beq id)&&Nat.blt id n) (xs1.look id) with
   | some (.raw (.lp ps1 a1 b1 .ready none) cells1)=>match run b (xs1.set id (.raw (.lp ps1 a1 b1 .busy none) cells1)) with
    | some (de,xs2)=>match xs2.look id with
     | some (.raw (.lp ps2 a2 b2 .busy none) cells2)=>zau (Nat.beq xs2.base n && !xs2.moved.any (Nat.beq id))
      (some ⟨.d (.bool (ze6 de)),xs2.next,(xs2.set id (.raw (.lp ps2 a2 b2 (zfo de) (zcx de)) cells2)).own.filter (zxt n (reach xs2.look 1000 (List.range n) [])),xs2.moved⟩)
     | _=>none
    | none=>none
   | _=>none
  | _=>none
 | _=>none
def z1v (run:Runner) (xs:XS) (id:Nat) (aS:List Sym) (dst:Option Tmp):Option XS:=
 let roots:=zd4 (.yd id::aS) []
 let ids:=reach xs.look 1000 roots roots
 match zau (nodupB ids&&zkw ids (.yd id::aS)) (zxr xs.look ids 0 ids) with
 | some own0=>match zxu run (zby ids id) (rens (zby ids) aS) own0 ids.length with
  | some r=>some ((xs.after ids r.nx r.own r.mv).put dst (ren (rho' ids xs.next) r.s))
  | none=>none
 | none=>none
def zs5 (Γ:XG) (call:Caller) (run:Runner) (o:Oper) (xs:XS):Option XS:=
 match o.op with
 | .call {callee:=.value f,args:=args,argTypes:=ts}=>match xs.val f with
  | .yd id=>zau (xdst o.dst xs.n) (z1v run xs id (args.toList.map xs.val) o.dst)
  | _=>zxs Γ call o xs
 | _=>zxs Γ call o xs
def xops (Γ:XG) (call:Caller) (run:Runner) (all:List Oper):List Oper→XS→Option XS
 | [],xs=>some xs
 | o::r,xs=>match o.guard with
  | none=>match zs5 Γ call run o xs with
   | some xs'=>xops Γ call run all r xs'
   | none=>none
  | some (j,want)=>match (all[j]?).bind (·.dst) with
   | some t=>match xs.get t with
    | some (.d (.bool b))=>match b==want with
     | true=>match zs5 Γ call run o xs with
      | some xs'=>xops Γ call run all r xs'
      | none=>none
     | false=>zau (xdst o.dst xs.n) (xops Γ call run all r (xs.put o.dst (.d (.val undef))))
    | some (.d (.val (.tuple ⟨[]⟩)))=>zau (xdst o.dst xs.n) (xops Γ call run all r (xs.put o.dst (.d (.val undef))))
    | _=>none
   | none=>none
def zfp (id:Nat):Option (DE×XS)→Option (DE×XS)
 | some (.exit j,xs)=>match Nat.beq j id with
  | true=>some (.normal,xs)
  | false=>some (.exit j,xs)
 | r=>r
def z97 (f:XS→Option (DE×XS)):Nat→XS→Option (DE×XS)
 | 0,_=>none
 | k+1,xs=>match f xs with
  | some (.normal,xs')=>z97 f k xs'
  | r=>r
def zd5 (xs:XS):Nat→Nat→List Sym
 | 0,_=>[]
 | k+1,t=>(match xs.get t with
  | some s=>s
  | none=>.junk)::zd5 xs k (t+1)
def zxv (l:Nat) (xs:XS):Option (DE×XS):=
 match xs.look l with
 | some (.raw (.lp _ _ _ st pend) _)=>match st,pend with
  | .busy,_=>none
  | _,none=>some (.normal,{xs with own:=xs.own.filter fun x=>!Nat.beq x.1 l})
  | _,some .ret=>some (.ret,{xs with own:=xs.own.filter fun x=>!Nat.beq x.1 l})
  | _,some (.exit i)=>some (.exit i,{xs with own:=xs.own.filter fun x=>!Nat.beq x.1 l})
  | _,_=>none
 | _=>none
def z98 (call:Caller) (xs:XS) (g:Operand) (ps:Array Tmp) (a b:Code):Option (DE×XS):=
 match zbi (xs.val g) with
 | some (gf,caps)=>
  let xs1:=xs.new (.raw (.lp ps a b .ready none) (zd5 xs xs.n 0))
  let roots:=zd4 (.yd xs.next::caps) []
  let ids:=reach xs1.look 1000 roots roots
  match zau (nodupB ids&&zkw ids (.yd xs.next::caps)) (zxr xs1.look ids 0 ids) with
  | some own0=>match call gf (rens (zby ids) (.yd xs.next::caps)) own0 ids.length with
   | some r=>zau (!r.mv.any (Nat.beq (zby ids xs.next))) (zxv xs.next (xs1.after ids r.nx r.own r.mv))
   | none=>none
  | none=>none
 | none=>none
def zbm:Code→Bool
 | .rangeFunc _ _ _ _=>true
 | .seq x y=>zbm x || zbm y
 | .cond _ x y=>zbm x || zbm y
 | .block _ c=>zbm c
 | .loop c=>zbm c
 | .scope c=>zbm c
 | _=>false
def zei (Γ:XG) (call:Caller) (run:Runner) (draw:List Oper→XS→Option XS):Code→Bool→XS→Option (DE×XS)
 | .skip,_,xs=>some (.normal,xs)
 | .region _ ops d,pl,xs=>match (match d with
   | true=>(match pl with
    | true=>draw ops.toList xs
    | false=>none)
   | false=>xops Γ call run ops.toList ops.toList xs) with
  | some xs'=>some (.normal,xs')
  | none=>none
 | .seq x y,pl,xs=>match zei Γ call run draw x pl xs with
  | some (.normal,xs')=>zei Γ call run draw y (pl && !zbm x) xs'
  | r=>r
 | .cond c x y,pl,xs=>match xs.val c with
  | .d (.bool true)=>zei Γ call run draw x pl xs
  | .d (.bool false)=>zei Γ call run draw y pl xs
  | _=>none
 | .block id c,pl,xs=>zfp id (zei Γ call run draw c pl xs)
 | .exit id,_,xs=>some (.exit id,xs)
 | .ret,_,xs=>some (.ret,xs)
 | .loop c,pl,xs=>z97 (zei Γ call run draw c (pl && !zbm c)) 100000 xs
 | .scope c,true,xs=>zei Γ call run draw c true xs
 | .label _,_,xs=>some (.normal,xs)
 | .rangeFunc g ps a b,true,xs=>z98 call xs g ps a b
 | _,_,_=>none
def xres (Γ:XG) (xs:XS):ResultVar→Option Sym
 | .tmp t=>xs.get t
 | .cell ad T=>match xs.get ad,Γ.ti T with
  | some (.bp id off),some ti=>match xs.look id with
   | some (.box _ cells)=>ych ti (cells.drop off)
   | _=>none
  | _,_=>none
def z4q (Γ:XG) (xs:XS):List ResultVar→Option (List Sym)
 | []=>some []
 | v::r=>match xres Γ xs v,z4q Γ xs r with
  | some s,some l=>some (s::l)
  | _,_=>none
mutual
def loB (m:Nat):Sym→Bool
 | .bp i _=>Nat.blt i m
 | .ar i=>Nat.blt i m
 | .ap i _ _ _=>Nat.blt i m
 | .aS i _ _ _=>Nat.blt i m
 | .av i _ _ _=>Nat.blt i m
 | .yd i=>Nat.blt i m
 | .mp i=>Nat.blt i m
 | .tup l=>losB m l
 | .agg l=>losB m l
 | .fn _ l=>losB m l
 | _=>true
def losB (m:Nat):List Sym→Bool
 | []=>true
 | s::r=>loB m s&&losB m r
end
def ydf (Γ:XG) (f:Nat) (args:List Sym):Option D:=match Γ.kn f,allD args with
 | some g,some ds=>g ds
 | _,_=>none
def ygb:DE→Bool
 | .exit _=>false
 | _=>true
mutual
def ygq:Sym→List Nat
 | .aS i _ _ _=>[i]
 | .agg l=>z1w l
 | .tup l=>z1w l
 | _=>[]
def z1w:List Sym→List Nat
 | []=>[]
 | s::r=>ygq s++z1w r
end
def ygc (Γ:XG) (xs:XS) (rs:List ResultVar):List Nat:=match z4q Γ xs rs with
 | some l=>z1w l
 | none=>[]
def xend (Γ:XG) (rs:List ResultVar) (n na:Nat) (de:DE) (xs:XS):Option XR:=match z4q Γ xs rs with
 | some l=>zau (ygb de&&loB xs.next (tupS l)&&Nat.beq xs.base n&&Nat.blt na 4000)
  (some ⟨tupS l,xs.next,xs.own.filter (zxt n (reach xs.look 1000 (zl6 (tupS l) []++List.range n) (zl6 (tupS l) []))),xs.moved⟩)
 | none=>none
def xfun (Γ:XG) (call:Caller) (run:Runner) (draw:List Oper→XS→Option XS):Caller:=fun f args own n=>match Γ.kc f with
 | some g=>g args own n
 | none=>match ydf Γ f args with
 | some r=>some ⟨.d r,n,own,[]⟩
 | none=>match Γ.fn f with
  | some (ntmps,c,rs)=>match zei Γ call run draw c true ⟨args.length+(ntmps-args.length),n,zuv 0 args .leaf,own,n,[]⟩ with
   | some (de,xs)=>xend Γ rs n args.length de (xs.frzs (ygc Γ xs rs))
   | none=>none
  | none=>none
def xenv (Γ:XG) (draw:Caller→List Oper→XS→Option XS):Nat→Caller×Runner
 | 0=>(fun _ _ _ _=>none,fun _ _=>none)
 | k+1=>match xenv Γ draw k with
  | (call,run)=>(xfun Γ call run (draw call),fun c xs=>zei Γ call run (draw call) c false xs)
def yct (Γ:XG) (draw:Caller→List Oper→XS→Option XS) (k:Nat):Caller:=(xenv Γ draw k).1
end Go.V
namespace Go.V
variable [Dr] [Ov]
open Go.RowKit
theorem zac {α:Type} {b:Bool} {x:Option α} {s:α}:zau b x=some s↔b=true∧x=some s:=by cases b <;> simp [zau]
theorem beq_iff {a b:Nat}:Nat.beq a b=true↔a=b:=by rw [Nat.beq_eq]
theorem zc2 {a b:Nat}:Nat.ble a b=true↔a≤b:=by rw [Nat.ble_eq]
theorem zb9 {a b:Nat}:Nat.blt a b=true↔a<b:=by rw [Nat.blt_eq]
theorem Tr.zhr : ∀ (k t:Nat),Tr.get k .leaf t=none
 | 0,_=>rfl
 | _+1,_=>rfl
theorem Tr.get_put : ∀ (k:Nat) (x:Tr) (t:Nat) (s:Sym) (u:Nat),t+1<2^k→Tr.get k (Tr.put k x t s) u=if t=u then some s else Tr.get k x u
 | 0,x,t,s,u,h=>by omega
 | k+1,x,t,s,u,h=>by
  have hk : ∀ t',t'+1+1<2^(k+1)→t'/2+1<2^k:=by intro t' h';rw [Nat.pow_succ] at h';omega
  cases x with
  | leaf=>
   cases t with
   | zero=>
    cases u with
    | zero=>simp [Tr.put,Tr.get]
    | succ u=>
     simp only [Tr.put,Tr.get,Tr.zhr];cases Nat.beq (u%2) 0 <;> simp
   | succ t=>
    have ih:=Tr.get_put k .leaf (t/2) s;simp only [Tr.put];cases ht:Nat.beq (t%2) 0 with
    | true=>
     have ht':=beq_iff.1 ht;cases u with
     | zero=>simp [Tr.get]
     | succ u=>
      simp only [Tr.get];cases hu:Nat.beq (u%2) 0 with
      | true=>
       have hu':=beq_iff.1 hu;simp only [ih (u/2) (hk t h),Tr.zhr];by_cases e:t=u
       ·subst e;simp
       ·have:¬ t/2=u/2:=by omega
        simp [e,this]
      | false=>
       have hu':u%2≠0:=fun e=>by rw [beq_iff.2 e] at hu;cases hu
       have:¬ t=u:=fun e=>hu' (e▸ht')
       simp [this,Tr.zhr]
    | false=>
     have ht':t%2≠0:=fun e=>by rw [beq_iff.2 e] at ht;cases ht
     cases u with
     | zero=>simp [Tr.get]
     | succ u=>
      simp only [Tr.get];cases hu:Nat.beq (u%2) 0 with
      | false=>
       have hu':u%2≠0:=fun e=>by rw [beq_iff.2 e] at hu;cases hu
       simp only [ih (u/2) (hk t h),Tr.zhr];by_cases e:t=u
       ·subst e;simp
       ·have:¬ t/2=u/2:=by omega
        simp [e,this]
      | true=>
       have hu':=beq_iff.1 hu;have:¬ t=u:=fun e=>ht' (e▸hu')
       simp [this,Tr.zhr]
  | node v l r=>
   cases t with
   | zero=>
    cases u with
    | zero=>simp [Tr.put,Tr.get]
    | succ u=>simp [Tr.put,Tr.get]
   | succ t=>
    simp only [Tr.put];cases ht:Nat.beq (t%2) 0 with
    | true=>
     have ih:=Tr.get_put k l (t/2) s;have ht':=beq_iff.1 ht;cases u with
     | zero=>simp [Tr.get]
     | succ u=>
      simp only [Tr.get];cases hu:Nat.beq (u%2) 0 with
      | true=>
       have hu':=beq_iff.1 hu;simp only [ih (u/2) (hk t h)];by_cases e:t=u
       ·subst e;simp
       ·have:¬ t/2=u/2:=by omega
        simp [e,this]
      | false=>
       have hu':u%2≠0:=fun e=>by rw [beq_iff.2 e] at hu;cases hu
       have:¬ t=u:=fun e=>hu' (e▸ht')
       simp [this]
    | false=>
     have ih:=Tr.get_put k r (t/2) s;have ht':t%2≠0:=fun e=>by rw [beq_iff.2 e] at ht;cases ht
     cases u with
     | zero=>simp [Tr.get]
     | succ u=>
      simp only [Tr.get];cases hu:Nat.beq (u%2) 0 with
      | false=>
       have hu':u%2≠0:=fun e=>by rw [beq_iff.2 e] at hu;cases hu
       simp only [ih (u/2) (hk t h)];by_cases e:t=u
       ·subst e;simp
       ·have:¬ t/2=u/2:=by omega
        simp [e,this]
      | true=>
       have hu':=beq_iff.1 hu;have:¬ t=u:=fun e=>ht' (e▸hu')
       simp [this]
theorem Tr.get_map (f:Sym→Sym) : ∀ (k:Nat) (x:Tr) (t:Nat),Tr.get k (Tr.map f x) t=(Tr.get k x t).map f
 | 0,x,t=>rfl
 | k+1,.leaf,t=>rfl
 | k+1,.node v l r,0=>rfl
 | k+1,.node v l r,u+1=>by
  simp only [Tr.map,Tr.get];cases Nat.beq (u%2) 0
  ·exact Tr.get_map f k r _
  ·exact Tr.get_map f k l _
theorem zf3 {α:Type} : ∀ (l:List (Nat×α)) (t:Nat),zju l t=zab l t
 | [],t=>rfl
 | (k,v)::r,t=>by
  simp only [zju,zab];cases h:Nat.beq k t with
  | true=>rw [if_pos (beq_iff.1 h)]
  | false=>rw [if_neg (fun e=>by rw [beq_iff.2 e] at h;cases h)];exact zf3 r t
theorem zz4 : ∀ (l:List (Nat×Obj')) (t:Nat) (o:Obj'),xset t o l=aset t o l
 | [],t,o=>rfl
 | (k,v)::r,t,o=>by
  simp only [xset,aset];cases h:Nat.beq k t with
  | true=>rw [if_pos (beq_iff.1 h)]
  | false=>rw [if_neg (fun e=>by rw [beq_iff.2 e] at h;cases h)];rw [zz4 r t o]
theorem zm8 (id:Nat) (x:D) : ∀ (l:List (Nat×Sym)) (t:Nat),zab (zcw id x l) t=(zab l t).map (thaw id x)
 | [],t=>rfl
 | (k,v)::r,t=>by simp only [zcw,zab];split;rfl;exact zm8 id x r t
theorem zqr (id:Nat) : ∀ (l:List (Nat×Sym)) (t:Nat),zab (zb4 id l) t=(zab l t).map (zbf id)
 | [],t=>rfl
 | (k,v)::r,t=>by simp only [zb4,zab];split;rfl;exact zqr id r t
theorem zn4 (M:List Nat) : ∀ (l:List (Nat×Sym)) (t:Nat),zab (za8 M l) t=(zab l t).map (zar M)
 | [],t=>rfl
 | (k,v)::r,t=>by simp only [za8,zab];split;rfl;exact zn4 M r t
mutual
theorem zs6 : ∀ (s:Sym),zar [] s=s
 | .ar i=>by simp [zar]
 | .ap i s j o=>by simp [zar]
 | .aS i s j o=>by simp [zar]
 | .av i s j o=>by simp [zar]
 | .yd i=>by simp [zar]
 | .bp i o=>by simp [zar]
 | .mp i=>by simp [zar]
 | .agg l=>by simp [zar,zhs l]
 | .tup l=>by simp [zar,zhs l]
 | .fn f l=>by simp [zar,zhs l]
 | .d x=>by simp [zar]
 | .nils=>by simp [zar]
 | .junk=>by simp [zar]
theorem zhs : ∀ (l:List Sym),zbt [] l=l
 | []=>by simp [zbt]
 | s::r=>by simp [zbt,zs6 s,zhs r]
end
theorem any_beq {i:Nat} {l:List Nat}:l.any (Nat.beq i)=true↔i∈l:=by
 rw [List.any_eq_true]
 constructor
 ·rintro ⟨x,hx,h⟩;rw [beq_iff] at h;subst h;exact hx
 ·exact fun h=>⟨i,h,beq_iff.2 rfl⟩
theorem zxw {i j:Nat} {l:List Nat}:i∈ziy j l↔i=j∨i∈l:=by
 unfold ziy
 split
 ·rename_i h;rw [any_beq] at h
  exact ⟨.inr,fun h'=>h'.elim (fun e=>e▸h) id⟩
 ·simp [or_comm]
structure Ag (st:St) (xs:XS):Prop where
 n:st.n=xs.n
 next:st.next=xs.next
 own:st.own=xs.own
 base:st.base=xs.base
 moved : ∀ id,id<st.base→id∈st.moved→id∈xs.moved
 slots : ∀ t,zab st.slots t=xs.get t
section
variable {st:St} {xs:XS}
theorem Ag.val (h:Ag st xs):st.val=xs.val:=by
 funext x
 cases x with
 | tmp t=>
  simp only [St.val,XS.val,h.slots];cases xs.get t <;> rfl
 | _=>rfl
theorem Ag.look (h:Ag st xs):st.look=xs.look:=by
 funext id;simp only [St.look,XS.look,zf3,h.own]
theorem zge {dst:Option Tmp} {n:Nat} (h:xdst dst n=true):(∀ t,dst=some t→t<n)∧(∀ t,dst=some t→t+1<4096):=by
 constructor <;> intro t e <;> subst e <;> simp only [xdst,Bool.and_eq_true,zb9] at h
 ·exact h.1
 ·exact Nat.add_lt_add_right h.2 1
theorem Ag.put (h:Ag st xs) {dst:Option Tmp} {n:Nat} (hd:xdst dst n=true) (s:Sym):Ag (st.put dst s) (xs.put dst s):=by
 cases dst with
 | none=>exact h
 | some t=>
  have ht:=(zge hd).2 t rfl;refine ⟨h.n,h.next,h.own,h.base,h.moved,fun u=>?_⟩
  show (if t=u then some s else zab st.slots u)=Tr.get dep (Tr.put dep xs.slots t s) u
  rw [Tr.get_put dep xs.slots t s u (by simpa [dep] using ht),h.slots];rfl
theorem Ag.new (h:Ag st xs) (o:Obj'):Ag (st.new o) (xs.new o):=by
 refine ⟨h.n,?_,?_,h.base,h.moved,h.slots⟩
 ·simp only [St.new,XS.new,h.next]
 ·simp only [St.new,XS.new,h.next,h.own]
theorem Ag.set (h:Ag st xs) (id:Nat) (o:Obj'):Ag {st with own:=aset id o st.own} (xs.set id o):=by
 refine ⟨h.n,h.next,?_,h.base,h.moved,h.slots⟩
 simp only [XS.set,zz4,h.own]
theorem Ag.frz (h:Ag st xs) (id:Nat):Ag (st.frz id) (xs.frz id):=by
 unfold St.frz XS.frz
 rw [← h.look]
 cases hl:st.look id with
 | none=>exact h
 | some o=>
  cases o with
  | box T cells=>exact h
  | raw k cells=>exact h
  | arr T sz rows=>
   refine ⟨h.n,h.next,by simp only [h.own],h.base,h.moved,fun t=>?_⟩
   show zab (zcw id _ st.slots) t=Tr.get dep (Tr.map _ xs.slots) t
   rw [zm8,Tr.get_map,h.slots];rfl
  | map T rows=>
   refine ⟨h.n,h.next,by simp only [h.own],h.base,h.moved,fun t=>?_⟩
   show zab (zcw id _ st.slots) t=Tr.get dep (Tr.map _ xs.slots) t
   rw [zm8,Tr.get_map,h.slots];rfl
theorem Ag.frzs : ∀ {l:List Nat} {st:St} {xs:XS},Ag st xs→Ag (st.frzs l) (xs.frzs l)
 | [],_,_,h=>h
 | id::r,_,_,h=>Ag.frzs (l:=r) (h.frz id)
theorem Ag.renew (h:Ag st xs) (id:Nat) (o:Obj'):Ag (st.renew id o) (xs.renew id o):=by
 refine ⟨h.n,h.next,by simp only [St.renew,XS.renew,h.own],h.base,fun i hi hm=>?_,fun t=>?_⟩
 ·simp only [St.renew] at hi hm
  simp only [XS.renew];have hb:=h.base;rcases List.mem_cons.1 hm with e | hm
  ·subst e
   rw [show Nat.blt i xs.base=true from zb9.2 (by omega)]
   exact zxw.2 (.inl rfl)
  ·have:=h.moved i hi hm
   split
   ·exact zxw.2 (.inr this)
   ·exact this
 show zab (zb4 id st.slots) t=Tr.get dep (Tr.map _ xs.slots) t
 rw [zqr,Tr.get_map,h.slots];rfl
theorem Ag.after (h:Ag st xs) (hb:st.base≤st.next) (ids:List Nat) (nx:Nat) (own':List (Nat×Obj')) (mv:List Nat):Ag (st.after ids nx own' mv) (xs.after ids nx own' mv):=by
 refine ⟨h.n,by simp only [St.after,XS.after,h.next],by simp only [St.after,XS.after,h.own,h.next],h.base,fun i hi hm=>?_,fun t=>?_⟩
 ·simp only [St.after] at hi hm
  simp only [XS.after];rw [← h.next];rcases List.mem_append.1 hm with hm | hm
  ·exact List.mem_append.2 (.inl hm)
  ·exact List.mem_append.2 (.inr (h.moved i hi hm))
 show zab (za8 _ st.slots) t=XS.get (xs.after ids nx own' mv) t
 rw [zn4,h.slots,h.next]
 cases mv with
 | nil=>
  show _=xs.get t
  cases xs.get t with
  | none=>rfl
  | some s=>simp [zs6]
 | cons m r=>
  show _=Tr.get dep (Tr.map _ xs.slots) t
  rw [Tr.get_map];rfl
end
structure XGood (P:Program) (Γ:XG):Prop where
 ti : ∀ {t ti},Γ.ti t=some ti→TI.of P t=some ti
 zf : ∀ {t},Γ.zf t=true→zfit P t=true
 ek : ∀ {t ks},Γ.ek t=some ks→eqKinds P t=some ks
 fn : ∀ {f n c rs},Γ.fn f=some (n,c,rs)→callable P f=true∧∃ fn,P.funcs[f]?=some fn∧fn.body=some c∧fn.ntmps=n∧fn.results.toList=rs
 kn : ∀ {f g ds r},Γ.kn f=some g→g ds=some r→zay P f ds r
 kc : ∀ {f g args own n r},Γ.kc f=some g→g args own n=some r→Sym.los n args→zcb P f args own n r.s r.nx r.own r.mv
section
variable {P:Program} {Γ:XG} {look:Nat→Option Obj'} {ρ:Operand→Sym} {k:Sym→Prop} {s:Sym}
theorem zn5 {ti:TI} {l:List D} (h:z1t ti l=some s) (hk:k s):headD ti l k:=by
 unfold z1t at h;unfold headD
 split at h
 ·rename_i e;rw [zac,zc2] at h;rw [if_pos e];obtain ⟨h1,h2⟩:=h;cases h2;exact ⟨h1,hk⟩
 ·rename_i e;rw [if_neg (by rw [e];decide)]
  split at h
  ·cases h;exact hk
  ·cases h
theorem zxx {ti:TI} {l:List Sym} (h:z90 ti l=some s) (hk:k s):zq6 ti l k:=by
 unfold z90 at h;unfold zq6
 split at h
 ·rename_i e;rw [zac,zc2] at h;rw [if_pos e];obtain ⟨h1,h2⟩:=h;cases h2;exact ⟨h1,hk⟩
 ·rename_i e;rw [if_neg (by rw [e];decide)]
  split at h
  ·cases h;exact hk
  ·cases h
theorem zz5 {ti:TI} {x:Sym} (h:yez look ti x=some s) (hk:k s):zkh look ti x k:=by
 unfold yez at h
 split at h
 ·simp only [zkh];exact zn5 h hk
 ·rename_i id off
  simp only [zkh];cases hl:look id with
  | none=>rw [hl] at h;cases h
  | some o=>
   rw [hl] at h;cases o <;> simp only at h ⊢ <;> first | exact zxx h hk | cases h
 ·rename_i id sz i off
  simp only [zkh];cases hl:look id with
  | none=>rw [hl] at h;cases h
  | some o=>
   rw [hl] at h;cases o <;> simp only at h ⊢ <;> first
    | (rw [zac,Bool.and_eq_true,beq_iff,zb9] at h;exact ⟨h.1.1,h.1.2,zn5 h.2 hk⟩)
    | cases h
 ·cases h
theorem zod {kd:TK} {x:Sym} {f:Nat} (h:zm6 kd x f=some s) (hk:k s):zdq kd x f k:=by
 have hz : ∀ {sz:Nat},(!Nat.beq sz 0)=true→sz≠0:=by intro sz h e;subst e;simp at h
 unfold zm6 at h;unfold zdq
 split at h
 ·split at h
  ·rename_i hf;simp only [hf];rw [zac] at h;obtain ⟨h1,h2⟩:=h;cases h2;exact ⟨hz h1,hk⟩
  ·rename_i hf;simp only [hf];rw [zac] at h;obtain ⟨h1,h2⟩:=h;cases h2;exact ⟨hz h1,hk⟩
  ·rename_i hf;simp only [hf];rw [zac] at h;obtain ⟨h1,h2⟩:=h;cases h2;exact ⟨hz h1,hk⟩
  ·cases h
 ·cases h
theorem zxy {kd:TK} {x:Sym} {f:Nat} (h:z92 kd x f=some s) (hk:k s):znl kd x f k:=by
 unfold z92 at h;unfold znl
 split at h
 ·split at h
  ·rename_i hf;simp only [hf]
   split at h
   ·rw [zac,zc2] at h;obtain ⟨h1,h2⟩:=h;cases h2;exact ⟨h1,hk⟩
   ·simp only [Bool.false_eq_true,if_false]
    split at h
    ·rename_i hd;cases h;rw [hd];exact hk
    ·cases h
  ·rename_i hf;simp only [hf]
   split at h
   ·rw [zac,zc2] at h;obtain ⟨h1,h2⟩:=h;cases h2;exact ⟨h1,hk⟩
   ·simp only [Bool.false_eq_true,if_false]
    split at h
    ·rename_i hd;cases h;rw [hd];exact hk
    ·cases h
  ·cases h
 ·cases h
theorem zoe {esz:Nat} {x y:Sym} (h:zm7 look esz x y=some s) (hk:k s):zce look esz x y k:=by
 unfold zm7 at h
 split at h
 ·rw [zac] at h;simp only [Bool.and_eq_true,decide_eq_true_eq,beq_iff] at h;obtain ⟨⟨⟨h1,h2⟩,h3⟩,h4⟩:=h;cases h4
  simp only [zce];exact ⟨⟨h1,h2⟩,h3,hk⟩
 ·rename_i id _ n
  simp only [zce];cases hl:look id with
  | none=>rw [hl] at h;cases h
  | some o=>
   rw [hl] at h;cases o <;> simp only at h ⊢ <;> first
    | (rw [zac] at h;simp only [Bool.and_eq_true,decide_eq_true_eq,beq_iff] at h;obtain ⟨⟨⟨h1,h2⟩,h3⟩,h4⟩:=h;cases h4;exact ⟨⟨h1,h2⟩,h3,hk⟩)
    | cases h
 ·cases h
theorem zxz {x y:Sym} (h:z94 x y=some s) (hk:k s):znm x y k:=by
 unfold z94 at h
 split at h
 ·rw [zac] at h;simp only [Bool.and_eq_true,decide_eq_true_eq] at h
  obtain ⟨⟨h1,h2⟩,h4⟩:=h;cases h4;simp only [znm];exact ⟨⟨h1,h2⟩,hk⟩
 ·cases h
theorem zi0 {kd:IntKind} {n:Int} (h:zqp kd n=some s) (hk:k s):arith kd n k:=by
 cases kd <;> simp only [zqp,arith] at h ⊢ <;> first
  | (rw [zac] at h;simp only [Bool.and_eq_true,decide_eq_true_eq] at h;obtain ⟨h1,h2⟩:=h;cases h2;split;(rw [IntWalk.i64_in n (by omega)];exact hk);exact ⟨h1,hk⟩)
  | (cases h;exact hk)
theorem zuw {kd:IntKind} {a b:Int} {op:BinOp} (h:zzw kd a b op=some s) (hk:k s):zmn kd a b k op:=by
 cases op <;> simp only [zzw,zmn] at h ⊢ <;> first
  | exact zi0 h hk
  | (rw [zac] at h;obtain ⟨h1,h2⟩:=h;refine ⟨by simpa using h1,?_⟩;first | exact zi0 h2 hk | (cases h2;exact hk))
  | (cases h;exact hk)
  | cases h
theorem z99 (a:ByteArray):a.toList=bl a:=ByteArray.toList_eq a
theorem zux {a b:ByteArray} {op:BinOp} (h:zzx a b op=some s) (hk:k s):zmo a b k op:=by
 cases op <;> simp only [zzx,zmo,z99] at h ⊢ <;> first
  | (rw [zac,zc2] at h;obtain ⟨h1,h2⟩:=h;cases h2;exact ⟨by omega,hk⟩)
  | (cases h;exact hk)
  | cases h
theorem zrh {a b:Bool} {op:BinOp} (h:zus a b op=some s) (hk:k s):zjc a b k op:=by
 cases op <;> simp only [zus,zjc] at h ⊢ <;> first | (cases h;exact hk) | cases h
theorem z4r {op:BinOp} {x y:Sym} (h:xbin op x y=some s) (hk:k s):sbin op x y k:=by
 unfold xbin at h
 split at h
 ·split at h
  ·rw [zac] at h;obtain ⟨h1,h2⟩:=h;cases h2;simp only [sbin];exact ⟨by simpa using h1,hk⟩
  ·rw [zac] at h;obtain ⟨h1,h2⟩:=h;cases h2;simp only [sbin];exact ⟨by simpa using h1,hk⟩
  ·rename_i n1 n2
   rw [zac] at h;obtain ⟨h1,h2⟩:=h;have h1:_=_:=of_decide_eq_true h1
   have h3:=zuw h2 hk;cases op <;> first | exact absurd rfl n1 | exact absurd rfl n2 | (simp only [sbin];exact ⟨h1,h3⟩)
 ·simp only [sbin];exact zux h hk
 ·simp only [sbin];exact zrh h hk
 ·split at h
  ·cases h;simp only [sbin];intro b hb;cases b
   ·exact hk
   ·exact absurd (hb rfl) (by simp)
  ·cases h;simp only [sbin];intro b hb;cases b
   ·exact hk
   ·exact absurd (hb rfl) (by simp)
  ·cases h
 ·split at h
  ·cases h;simp only [sbin];exact hk
  ·cases h;simp only [sbin];exact hk
  ·cases h
 ·cases h
theorem zuy (hg:XGood P Γ) {op:BinOp} {t:Nat} {x y:Sym} (h:zzy Γ op t x y=some s) (hk:k s):znn P op t x y k:=by
 unfold zzy at h
 split at h
 ·split at h
  ·rename_i ks hks
   split at h
   ·rename_i r hr
    simp only [znn,hg.ek hks,hr];split at h
    ·cases h;exact hk
    ·cases h;exact hk
    ·cases h
   ·cases h
  ·cases h
 ·cases h
theorem yaa {op:UnOp} {x:Sym} (h:xun op x=some s) (hk:k s):sun op x k:=by
 unfold xun at h
 split at h
 ·split at h
  ·cases h;simp only [sun];exact hk
  ·cases h
 ·split at h
  ·simp only [sun];exact zi0 h hk
  ·cases h
 ·cases h
theorem zri {kd:TK} {x:Sym} (h:zut kd x=some s) (hk:k s):ze2 kd x k:=by
 unfold zut at h
 split at h
 ·cases h;simp only [ze2];exact hk
 ·cases h;simp only [ze2];exact hk
 ·cases h
theorem zrj {x:Sym} {i:Nat} (h:zuu x i=some s) (hk:k s):ze3 x i k:=by
 unfold zuu at h
 split at h
 ·split at h
  ·rename_i hx;cases h;simp only [ze3,hx];exact hk
  ·cases h
 ·simp only [ze3,h];exact hk
 ·cases h
theorem z4s {kd:TK} {x:Sym} (h:xlen look kd x=some s) (hk:k s):slen look kd x k:=by
 unfold xlen at h
 split at h
 ·cases h;simp only [slen];exact hk
 ·cases h;simp only [slen];exact hk
 ·cases h;simp only [slen];exact hk
 ·split at h
  ·rename_i hx;cases h;simp only [slen,hx];exact hk
  ·cases h
 ·cases h;simp only [slen];exact hk
 ·cases h
theorem zx0 (hg:XGood P Γ) {kd:TK} {x:Sym} {lo hi:Option Sym} (h:z95 Γ look kd x lo hi=some s) (hk:k s):zpm P kd=true∧zgr P look kd x lo hi k:=by
 unfold z95 at h
 split at h
 ·split at h
  ·rename_i te o hh h1 h2 h3
   rw [zac] at h;simp only [Bool.and_eq_true,decide_eq_true_eq,List.all_eq_true,beq_iff] at h;obtain ⟨⟨⟨⟨q1,q2⟩,q3⟩,q4⟩,q5⟩:=h;cases q5;simp only [zgr,zpm,hg.ti h1,h2,h3,elemSize];exact ⟨rfl,⟨q1,q2,q3⟩,q4,hk⟩
  ·cases h
 ·split at h
  ·rename_i T sz rows te h0 h1
   split at h
   ·rename_i o hh h2 h3
    rw [zac] at h;simp only [Bool.and_eq_true,decide_eq_true_eq,beq_iff] at h;obtain ⟨⟨⟨⟨q1,q2⟩,q3⟩,q4⟩,q5⟩:=h;cases q5;simp only [zgr,zpm,hg.ti h1,h0,h2,h3,elemSize];refine ⟨rfl,⟨q1,q2,q3⟩,q4,?_⟩
    by_cases e:o=hh
    ·rw [if_pos e];simpa [e] using hk
    ·rw [if_neg e];simpa [e] using hk
   ·cases h
  ·cases h
 ·split at h
  ·rename_i o hh h2 h3
   rw [zac] at h;simp only [Bool.and_eq_true,decide_eq_true_eq] at h;obtain ⟨⟨⟨q1,q2⟩,q3⟩,q5⟩:=h;cases q5;simp only [zgr,zpm,h2,h3];exact ⟨trivial,⟨q1,q2,q3⟩,hk⟩
  ·cases h
 ·cases h
theorem z4t {x:Sym} (h:xnil x=some s) (hk:k s):snil x k:=by
 unfold xnil at h
 split at h <;> first | (cases h;simp only [snil];exact hk) | cases h
theorem zz6 {ti:TI} (h:ye0 ti=some s) (hk:k s):zeroS ti k:=by
 unfold ye0 at h;unfold zeroS
 split at h
 ·rename_i e;rw [zac] at h;obtain ⟨h1,h2⟩:=h;cases h2;rw [if_pos e];exact ⟨h1,hk⟩
 ·rename_i e;rw [if_neg (by rw [e];decide)]
  split at h
  ·rename_i hz;cases h;rw [hz];exact hk
  ·cases h
theorem zuz {kk:TK} {te:TI} {c:Bool} {m x:Sym} (h:zz0 look kk te c m x=some s) (hk:k s):zfj look kk te c m x k:=by
 unfold zz0 at h
 split at h
 ·rename_i rows y hr
  rw [zac] at h;obtain ⟨h1,h⟩:=h;simp only [zfj,hr];refine ⟨h1,?_⟩
  split at h
  ·rename_i v hv;cases h;rw [hv];cases c <;> exact hk
  ·rename_i hv
   rw [hv];split at h
   ·rename_i z hz;cases h
    refine zz6 hz ?_
    cases c <;> exact hk
   ·cases h
  ·cases h
 ·cases h
theorem zx1 {ti:TI} {parts:List (Nat×Sym)} (h:z96 ti parts=some s) (hk:k s):zns ti parts k:=by
 unfold z96 at h
 split at h
 ·rename_i fs hkd
  rw [zac] at h;obtain ⟨h1,h⟩:=h;simp only [zns,hkd];refine ⟨h1,?_⟩
  split at h
  ·rename_i out ho;cases h;rw [ho];exact hk
  ·cases h
 ·cases h
theorem zqs (hg:XGood P Γ) {op:Op} (h:xop Γ look ρ op=some s) (hk:k s):sopB P look ρ op k:=by
 unfold xop at h
 split at h
 ·cases h;simp only [sopB,sop];exact hk
 ·cases h;simp only [sopB,sop];exact hk
 ·rename_i c x y
  simp only [sopB,sop];split at h
  ·rename_i e;cases h;rw [e];simp only [zy5,if_true];exact hk
  ·rename_i e;cases h;rw [e];simp only [zy5,Bool.false_eq_true,if_false];exact hk
  ·cases h
 ·split at h
  ·rename_i ht;simp only [sopB,sop,hg.ti ht];exact zz5 h hk
  ·cases h
 ·split at h
  ·rename_i ht;simp only [sopB,sop,hg.ti ht];exact zod h hk
  ·cases h
 ·split at h
  ·rename_i ht;simp only [sopB,sop,hg.ti ht];exact zxy h hk
  ·cases h
 ·split at h
  ·rename_i ht
   split at h
   ·rename_i ht2;simp only [sopB,sop,hg.ti ht,hg.ti ht2];exact zoe h hk
   ·cases h
  ·cases h
 ·split at h
  ·rename_i ht;simp only [sopB,sop,hg.ti ht];exact zxz h hk
  ·cases h
 ·split at h
  ·rename_i ht;simp only [sopB,sop,hg.ti ht];exact zx0 hg h hk
  ·cases h
 ·split at h
  ·rename_i ht
   simp only [sopB,sop,hg.ti ht];split at h
   ·rename_i e1 e2;right;rw [e1,e2];exact zuy hg h hk
   ·rename_i e;rw [zac] at h;left;exact ⟨h.1,z4r h.2 hk⟩
  ·cases h
 ·simp only [sopB,sop];exact yaa h hk
 ·split at h
  ·rename_i h1 h2;simp only [sopB,sop,hg.ti h1,hg.ti h2];exact zri h hk
  ·cases h
 ·simp only [sopB,sop];exact zrj h hk
 ·split at h
  ·rename_i ht
   split at h
   ·rename_i h1 h2;rw [zac] at h;simp only [sopB,sop,hg.ti ht,hg.ti h1,hg.ti h2];exact ⟨hg.zf h.1,zuz h.2 hk⟩
   ·cases h
  ·cases h
 ·simp only [sopB,sop];exact z4t h hk
 ·split at h
  ·rename_i hx hy
   split at h
   ·rename_i ht;simp only [sopB,sop,hx,hy,hg.ti ht];exact z4s h hk
   ·cases h
  ·cases h
 ·simp only [sopB,sop]
  split at h
  ·rename_i heq;rw [heq];cases h;simp only [zhc];rename_i a _ b
   by_cases e:b>a
   ·simpa [e] using hk
   ·simpa [e] using hk
  ·cases h
 ·simp only [sopB,sop]
  split at h
  ·rename_i heq;rw [heq];cases h;simp only [zhc];rename_i a _ b
   by_cases e:b<a
   ·simpa [e] using hk
   ·simpa [e] using hk
  ·cases h
 ·split at h
  ·rename_i ht;simp only [sopB,hg.ti ht];exact zx1 h hk
  ·cases h
 ·rename_i t n parts
  split at h
  ·rename_i e _ _ _ _ ht
   split at h
   ·rename_i te xs hte hin
    split at h
    ·rename_i rows hrows
     rw [zac] at h;simp only [Bool.and_eq_true,beq_iff,zb9,zc2] at h;obtain ⟨⟨⟨h1,h2⟩,h3⟩,h⟩:=h;cases h;simp only [sopB,zhi];rw [hg.ti ht];simp only;rw [hg.ti hte];simp only;rw [hin];simp only;rw [hrows];exact ⟨h1,h2,h3,hk⟩
    ·cases h
   ·cases h
  ·cases h
 ·split at h
  ·rename_i hf;cases h;simp only [sopB,hf];exact hk
  ·cases h
 ·cases h
end
end Go.V
namespace Go.V
variable [Dr] [Ov]
open Go.RowKit
def zbn (P:Program) (call:Caller):Prop:=∀ f args own n r,call f args own n=some r→Sym.los n args→zcb P f args own n r.s r.nx r.own r.mv
theorem zb3 : ∀ {ids:List Nat} {i:Nat},i∈ids→rho ids (zby ids i)=i∧zby ids i<ids.length
 | j::r,i,h=>by
  simp only [zby];cases hb:Nat.beq i j with
  | true=>rw [beq_iff] at hb;subst hb;simp [rho]
  | false=>
   have hne:i≠j:=fun e=>by rw [beq_iff.2 e] at hb;cases hb
   have hr:i∈r:=by rcases List.mem_cons.1 h with h | h;exact absurd h hne;exact h
   obtain ⟨h1,h2⟩:=zb3 hr;simp only [rho] at h1 ⊢;simp only [List.getD_cons_succ,List.length_cons];exact ⟨h1,by omega⟩
mutual
theorem ye1 {ids:List Nat} : ∀ {s:Sym},innB ids s=true→ren (rho ids) (ren (zby ids) s)=s∧Sym.lo ids.length (ren (zby ids) s)
 | .bp i o,h=>by simp only [innB,any_beq] at h;have:=zb3 h;simp only [ren,Sym.lo];exact ⟨by rw [this.1],this.2⟩
 | .ar i,h=>by simp only [innB,any_beq] at h;have:=zb3 h;simp only [ren,Sym.lo];exact ⟨by rw [this.1],this.2⟩
 | .ap i s j o,h=>by simp only [innB,any_beq] at h;have:=zb3 h;simp only [ren,Sym.lo];exact ⟨by rw [this.1],this.2⟩
 | .aS i s j o,h=>by simp only [innB,any_beq] at h;have:=zb3 h;simp only [ren,Sym.lo];exact ⟨by rw [this.1],this.2⟩
 | .av i s j o,h=>by simp only [innB,any_beq] at h;have:=zb3 h;simp only [ren,Sym.lo];exact ⟨by rw [this.1],this.2⟩
 | .yd i,h=>by simp only [innB,any_beq] at h;have:=zb3 h;simp only [ren,Sym.lo];exact ⟨by rw [this.1],this.2⟩
 | .mp i,h=>by simp only [innB,any_beq] at h;have:=zb3 h;simp only [ren,Sym.lo];exact ⟨by rw [this.1],this.2⟩
 | .tup l,h=>by simp only [innB] at h;have:=zf4 h;simp [ren,Sym.lo,this.1,this.2]
 | .agg l,h=>by simp only [innB] at h;have:=zf4 h;simp [ren,Sym.lo,this.1,this.2]
 | .fn f l,h=>by simp only [innB] at h;have:=zf4 h;simp [ren,Sym.lo,this.1,this.2]
 | .d x,h=>by simp [ren,Sym.lo]
 | .nils,h=>by simp [ren,Sym.lo]
 | .junk,h=>by simp [ren,Sym.lo]
theorem zf4 {ids:List Nat} : ∀ {l:List Sym},zkw ids l=true→rens (rho ids) (rens (zby ids) l)=l∧Sym.los ids.length (rens (zby ids) l)
 | [],h=>by simp [rens,Sym.los]
 | s::r,h=>by
  simp only [zkw,Bool.and_eq_true] at h;have h1:=ye1 h.1;have h2:=zf4 h.2;simp [rens,Sym.los,h1.1,h1.2,h2.1,h2.2]
end
theorem z1x {ids:List Nat} {o:Obj'} (h:innO ids o=true):zcm (rho ids) (zcm (zby ids) o)=o∧(zcm (zby ids) o).lo ids.length:=by
 cases o with
 | box T cells=>simp only [innO] at h;have:=zf4 h;simp [zcm,Obj'.lo,this.1,this.2]
 | arr T sz rows=>simp [zcm,Obj'.lo]
 | map T rows=>simp [zcm,Obj'.lo]
 | raw k cells=>simp only [innO] at h;have:=zf4 h;simp [zcm,Obj'.lo,this.1,this.2]
theorem zht : ∀ {l:List Nat},nodupB l=true→l.Nodup
 | [],_=>List.nodup_nil
 | i::r,h=>by
  simp only [nodupB,Bool.and_eq_true,Bool.not_eq_true'] at h;refine List.nodup_cons.2 ⟨fun hm=>?_,zht h.2⟩
  rw [any_beq.2 hm] at h;cases h.1
theorem zm9 {look:Nat→Option Obj'} {ids:List Nat} : ∀ {k:Nat} {l:List Nat} {own0:List (Nat×Obj')},zxr look ids k l=some own0→(∀ j x,l[j]?=some x→rho ids (k+j)=x) →
  own0.map (·.1)=List.range' k l.length∧(∀ i o,(i,o)∈own0→∃ o',look (rho ids i)=some o'∧o=zcm (zby ids) o'∧innO ids o'=true)∧∀ i∈l,∃ o,look i=some o
 | k,[],own0,h,_=>by simp [zxr] at h;subst h;simp
 | k,i::r,own0,h,hp=>by
  simp only [zxr] at h;split at h
  ·rename_i o ho
   split at h
   ·rename_i hin
    split at h
    ·rename_i l hl
     cases h;obtain ⟨h1,h2,h3⟩:=zm9 hl (fun j x hj=>by have:=hp (j+1) x (by simpa using hj);rw [← this];congr 1;omega)
     have h0:rho ids k=i:=hp 0 i (by simp)
     refine ⟨by simp only [List.map_cons,List.length_cons,List.range'_succ,h1],?_,?_⟩
     ·intro i' o' hm
      rcases List.mem_cons.1 hm with e | hm
      ·cases e;exact ⟨o,by rw [h0];exact ho,rfl,hin⟩
      ·exact h2 i' o' hm
     ·intro i' hm
      rcases List.mem_cons.1 hm with e | hm
      ·subst e;exact ⟨o,ho⟩
      ·exact h3 i' hm
    ·cases h
   ·cases h
  ·cases h
theorem zqu {st:St} {ids:List Nat} : ∀ {l:List (Nat×Obj')},(∀ i o,(i,o)∈l→st.look (rho ids i)=some (zcm (rho ids) o)∧o.lo ids.length)→zf0 st ids l
 | [],_=>trivial
 | (i,o)::r,h=>by
  simp only [zf0];obtain ⟨h1,h2⟩:=h i o (by simp)
  rw [h1];exact ⟨rfl,h2,zqu fun i' o' hm=>h i' o' (List.mem_cons_of_mem _ hm)⟩
section
variable {P:Program} {Γ:XG} {call:Caller} {X:Nat→Prop} {w0:Base} {st:St} {xs xs':XS} {β:Nat→Value} {a:Act} {w:World}
theorem zs7 (hc:zbn P call) (hag:Ag st xs) (hm:Mods X w0 st β a w) {f:Operand} {args:List Operand} {dst:Option Tmp} {g n:Nat} {caps:List Sym} (hcal:zbi (st.val f)=some (g,caps))
  (hd:xdst dst n=true) (h:xmut call xs g (args.map st.val++caps) dst=some xs'):EMut P st f args dst (fun st'=>Ag st' xs'):=by
 unfold xmut at h
 simp only at h
 generalize hids:reach xs.look 1000 (zd4 (args.map st.val++caps) []) (zd4 (args.map st.val++caps) [])=ids at h
 split at h
 ·rename_i own0 hp
  rw [zac,Bool.and_eq_true] at hp;obtain ⟨⟨hn,hin⟩,hp⟩:=hp;split at h
  ·rename_i r hr
   cases h;obtain ⟨h1,h2⟩:=zf4 hin;obtain ⟨q1,q2,q3⟩:=zm9 hp (fun j x hj=>by simp [rho,hj])
   refine ⟨g,caps,ids,rens (zby ids) (args.map st.val++caps),own0,r.s,r.nx,r.own,r.mv,hcal,h1,h2,⟨zht hn,?_,by rw [q1,List.range_eq_range'],?_⟩,hc _ _ _ _ _ hr h2,?_⟩
   ·intro id hid
    obtain ⟨o,ho⟩:=q3 id hid;rw [← hag.look] at ho;exact (hm.obj ho).1
   ·refine zqu fun i o hmem=>?_
    obtain ⟨o',h3,h4,h5⟩:=q2 i o hmem;obtain ⟨h6,h7⟩:=z1x h5;rw [hag.look,h4,h6];exact ⟨h3,h7⟩
   ·rw [hag.next]
    exact (hag.after hm.still.1 ids r.nx r.own r.mv).put hd _
  ·cases h
 ·cases h
theorem zx2 {w:World} {E:Nat→Prop} {β:Nat→Value} : ∀ {l:List Sym} {ds:List D} {vs:List Value},allD l=some ds→Sms w E β l vs→za9 w E ds vs
 | [],ds,vs,h,hs=>by simp [allD] at h;subst h;simpa [Sms,za9] using hs
 | s::r,ds,vs,h,hs=>by
  simp only [allD] at h;split at h
  ·rename_i x xs hx hxs
   cases h;simp only [Sms] at hs;obtain ⟨v,vs',rfl,h1,h2⟩:=hs;simp only [za9];refine ⟨v,vs',rfl,?_,zx2 hxs h2⟩
   cases s <;> simp only [unD] at hx <;> cases hx
   ·simpa [Sm] using h1
   ·simp only [Sm] at h1;subst h1;simp only [R];exact ⟨none,0,rfl,by simp,by simp,fun _=>rfl,by simp⟩
  ·cases h
theorem zj5 {f:Nat} {ds:List D} {r:D} {nx:Nat} {own:List (Nat×Obj')} {mv:List Nat} (h:zcb P f (ds.map .d) [] 0 (.d r) nx own mv):zay P f ds r:=by
 refine ⟨h.1,fun w E vs hE hr=>?_⟩
 have hm:Mods E (.of w) (zde [] 0 0 []) (fun _=>.pointer none) act0 w:=
  ⟨⟨fun b hb hmay=>hmay.elim (fun h=>by have:w.heap.size≤b:=h;have:=hE.1 b hb;omega) (fun h=>h),hE.2.over (Over.less fun b h=>h.elim id False.elim)⟩,⟨Nat.le_refl _,fun _ _ _=>rfl⟩,fun _=>rfl,rfl,rfl,Kept.refl _,by simp [zde],by simp [zde],by simp [zde],by intro t s ht;simp [zde,zab] at ht⟩
 have hov:Over w E w (Ex E (fun _=>Value.pointer none) []):=Over.less fun b hb=>hb.elim id fun ⟨_,_,hx,_⟩=>by cases hx
 refine (h.2 E (.of w) _ w vs rfl hm (Sms.zf9 (za9.over hov _ _ hr))).mono fun e w' he=>?_
 obtain ⟨β',v,rfl,hm',_,hs⟩:=he
 simp only [Sm] at hs
 exact ⟨v,rfl,hm'.below.below,R.over (Over.less fun b hb=>.inl hb) _ _ hs⟩
theorem zrk {f:Nat} {args:List Sym} {ds:List D} {r:D} {own:List (Nat×Obj')} {n:Nat} (h:zay P f ds r) (ha:allD args=some ds):zcb P f args own n (.d r) n own []:=by
 refine ⟨h.1,fun X w0 β w vs hβ hm hs=>?_⟩
 have hr:za9 w (Ex X β own) ds vs:=zx2 ha hs
 refine (h.2 w (Ex X β own) vs hm.seen hr).mono fun e w' he=>?_
 obtain ⟨v,rfl,hb,hr'⟩:=he
 have hm':=hm.put hb (dst:=none) (s:=.junk) (v:=v) (by simp) (by simp [Sym.lo]) (by simp [Sm])
 exact ⟨β,v,rfl,hm',by simp [Sym.lo],by simpa [Sm] using hr'⟩
theorem orElse_some {α:Type} {x y:Option α} {r:α} (h:orElse' x y=some r):x=some r∨y=some r:=by
 unfold orElse' at h
 split at h
 ·exact .inl h
 ·exact .inr h
theorem zu0 (hc:zbn P call) (hag:Ag st xs) (hm:Mods X w0 st β a w) {o:Oper} {f:Operand} {args:Array Operand} {ts:Array TypeId} (ho:o.op = .call {callee:=.value f,args,argTypes:=ts})
  {n:Nat} (hd:xdst o.dst n=true) (hdn : ∀ t,o.dst=some t→t<st.n) (h:zz3 Γ call xs f args.toList o.dst=some xs'):Goes P X w0 o a w (fun st'=>Ag st' xs'):=by
 unfold zz3 at h
 rw [← hag.val] at h
 split at h
 ·rename_i g caps hcal
  have k1:xmut call xs g (args.toList.map st.val++caps) o.dst=some xs'→Goes P X w0 o a w (fun st'=>Ag st' xs'):=fun h=>zjk hm ho hdn (zs7 hc hag hm hcal hd h)
  have k2:zz2 call xs g (args.toList.map st.val++caps) o.dst=some xs'→Goes P X w0 o a w (fun st'=>Ag st' xs'):=by
   intro h;unfold zz2 at h;split at h
   ·rw [← hag.look] at h
    split at h
    ·rename_i ds b hl
     split at h
     ·rename_i r nx own' mv hr
      rw [zac] at h;obtain ⟨hsc,h⟩:=h;cases h;have hp:=zj5 (hc _ _ _ _ _ hr (Sym.z06 0 ds));refine zis hm ho hdn ?_
      unfold zny zeu;rw [hcal];simp only [hl];exact .inl ⟨r,hp,fun _=>.inl hsc,hag.put hd _⟩
     ·cases h
    ·cases h
   ·cases h
  have k3 : ∀ L,zqq call xs f args.toList o.dst L=some xs'→Goes P X w0 o a w (fun st'=>Ag st' xs'):=by
   intro L h;unfold zqq at h;have hag1:Ag (st.frzs L) (xs.frzs L):=hag.frzs
   have hm1:Mods X w0 (st.frzs L) β a w:=hm.frzs
   rw [← hag1.val] at h;split at h
   ·rename_i g' caps' hcal'
    exact zjk hm1 ho (fun t e=>by rw [(zio L st).2];exact hdn t e) (zs7 hc hag1 hm1 hcal' hd h)
   ·cases h
  simp only at h
  split at h
  ·exact k1 h
  ·split at h
   ·rcases orElse_some h with h | h
    ·exact k2 h
    ·rcases orElse_some h with h | h
     ·exact k1 h
     ·exact k3 _ h
   ·split at h
    ·rcases orElse_some h with h | h
     ·exact k1 h
     ·exact k3 _ h
    ·rcases orElse_some h with h | h
     ·exact k3 _ h
     ·exact k1 h
 ·cases h
end
end Go.V
namespace Go.V
variable [Dr] [Ov]
open Go.RowKit
section
variable {P:Program} {Γ:XG} {call:Caller} {X:Nat→Prop} {w0:Base} {st:St} {xs xs':XS} {β:Nat→Value} {a:Act} {w:World}
theorem zu1 (look:St) (id:Nat) (s:Sym) {l:List (List D)} (h:xsrc look.look id s=some l):zc1 look id s=some l:=by
 unfold xsrc at h
 split at h
 ·exact h
 ·exact h
 ·rename_i j
  split at h
  ·cases h
  ·rename_i hne
   simp only [zc1];rw [if_neg (fun e=>by rw [beq_iff.2 e] at hne;cases hne)]
   exact h
 ·rename_i j sz lo n
  split at h
  ·cases h
  ·rename_i hne
   simp only [zc1];rw [if_neg (fun e=>by rw [beq_iff.2 e] at hne;cases hne)]
   split at h
   ·rename_i T sz' rows hl
    rw [zac,Bool.and_eq_true,beq_iff,zc2] at h;rw [hl];simp only;rw [if_pos h.1];exact h.2
   ·cases h
 ·cases h
theorem zu3 {n:Nat} {l:List (List D)} (h:l.all (fun r=>Nat.beq r.length n)=true) : ∀ r∈l,r.length=n:=by
 intro r hr
 exact beq_iff.1 (List.all_eq_true.1 h r hr)
theorem zkx (hg:XGood P Γ) (hc:zbn P call) (hag:Ag st xs) (hm:Mods X w0 st β a w) {o:Oper} (h:zxs Γ call o xs=some xs'):Goes P X w0 o a w (fun st'=>Ag st' xs'):=by
 unfold zxs at h
 rw [zac] at h
 obtain ⟨hd,h⟩:=h
 have hdt : ∀ t,o.dst=some t→t<st.n:=fun t e=>by rw [hag.n];exact (zge hd).1 t e
 rw [← hag.val,← hag.look] at h
 split at h
 ·rename_i T x ho
  split at h
  ·rename_i l hl
   cases h;refine zsm hm ho hdt ?_
   unfold eBox;rw [hl];simp only;rw [hag.next];exact (hag.new _).put hd _
  ·cases h
 ·rename_i T ho
  split at h
  ·rename_i ti ht
   rw [zac] at h;obtain ⟨h1,h⟩:=h;cases h;refine znq hm ho (hg.ti ht) hdt ⟨h1,?_⟩
   rw [hag.next];exact (hag.new _).put hd _
  ·cases h
 ·rename_i ho
  split at h
  ·rename_i e _ _ _ _ ht
   split at h
   ·rename_i te hte
    cases h;refine zsn hm ho hdt (e:=e) (sz:=te.size) ?_
    unfold eNil;rw [hag.next];exact (hag.new _).put hd _
   ·cases h
  ·cases h
 ·rename_i t n parts ho
  split at h
  ·rename_i e _ _ _ _ ht
   split at h
   ·rename_i te hte
    split at h
    ·rename_i l hl
     simp only at h
     have hag1:Ag (st.frzs (zfy (l.map st.val))) (xs.frzs (zfy (l.map st.val))):=hag.frzs
     rw [← hag1.val] at h;split at h
     ·rename_i rows hrows
      rw [zac] at h;simp only [Bool.and_eq_true,beq_iff,zb9,zc2] at h;obtain ⟨⟨⟨h1,h2⟩,h3⟩,h⟩:=h;cases h;refine znt hm ho hdt ?_
      unfold zp0;rw [hg.ti ht];simp only;rw [hg.ti hte];simp only;rw [hl];simp only;refine ⟨h1,h2,h3,?_⟩
      rw [hrows];simp only;rw [hag1.next];exact (hag1.new _).put hd _
     ·cases h
    ·cases h
   ·cases h
  ·cases h
 ·rename_i t ad x ho
  split at h
  ·rename_i ti hdn ht
   refine znr hm ho (hg.ti ht) hdn ?_
   unfold zlj;split at h
   ·rename_i id off had
    rw [had];simp only;split at h
    ·rename_i T cells hob
     rw [hob];simp only;split at h
     ·rename_i l hl
      rw [zac] at h;simp only [Bool.and_eq_true,beq_iff,zc2] at h;obtain ⟨⟨h1,h2⟩,h⟩:=h;cases h;rw [hl];exact ⟨h1,h2,hag.set id _⟩
     ·cases h
    ·cases h
   ·rename_i id sz i off had
    rw [had];simp only;split at h
    ·rename_i T sz' rows hob
     rw [hob];simp only;split at h
     ·rename_i l hl
      rw [hl];simp only;split at h
      ·rename_i ds hds
       rw [zac] at h;simp only [Bool.and_eq_true,beq_iff,zc2,zb9] at h;obtain ⟨⟨⟨⟨h1,h2⟩,h3⟩,h4⟩,h⟩:=h;cases h;rw [hds];exact ⟨h1,h2,h3,h4,hag.set id _⟩
      ·cases h
     ·cases h
    ·cases h
   ·cases h
  ·cases h
 ·rename_i t l c ho
  refine zp2 hm ho hdt ?_
  unfold z8d;split at h
  ·rename_i e _ _ _ _ _ ln _ cn ht hl hcv
   rw [hg.ti ht,hl,hcv];simp only;split at h
   ·rename_i te hte
    rw [hg.ti hte];simp only;split at h
    ·rename_i x hx
     rw [zac] at h;simp only [Bool.and_eq_true,beq_iff,zb9,decide_eq_true_eq] at h;obtain ⟨⟨⟨⟨⟨⟨⟨h0,h1⟩,h2⟩,h3⟩,h4⟩,h5⟩,h6⟩,h⟩:=h;cases h;rw [hx];refine ⟨h0,h1,h2,h3,h4,h5,h6,?_⟩;rw [hag.next];exact (hag.new _).put hd _
    ·cases h
   ·cases h
  ·cases h
 ·rename_i t ho
  cases h;refine zj1 hm ho hdt ?_
  unfold zol;rw [hag.next];exact (hag.new _).put hd _
 ·rename_i t m x v ho
  split at h
  ·rename_i id x' v' kt _ _ _ _ _ hdn hmm hx hv ht
   refine zhw hm ho hdn ?_
   unfold zgz;rw [hmm,hx,hv,hg.ti ht];simp only;split at h
   ·rename_i T rows tk hob htk
    rw [hob,hg.ti htk];simp only;split at h
    ·rename_i rows' hp
     rw [zac] at h;obtain ⟨h1,h⟩:=h;cases h;rw [hp];exact ⟨h1,hag.set _ _⟩
    ·cases h
   ·cases h
  ·cases h
 ·rename_i xs' ts ho
  split at h
  ·rename_i s x t t' hx ht
   have e1:xs' = #[s,x]:=by cases xs';simp at hx;rw [hx]
   have e2:ts = #[t,t']:=by cases ts;simp at ht;rw [ht]
   subst e1;subst e2;refine zlp hm ho hdt ?_
   unfold zkl;split at h
   ·rename_i e _ _ _ _ hte
    rw [hg.ti hte];simp only;split at h
    ·rename_i te hte2
     rw [hg.ti hte2];simp only;split at h
     ·rename_i id hs
      rw [hs];simp only;split at h
      ·rename_i T sz rows l hob hsrc
       rw [zac] at h;simp only [Bool.and_eq_true,beq_iff,zc2,zb9] at h;obtain ⟨⟨⟨⟨⟨⟨⟨⟨⟨h1,h2⟩,h3⟩,h30⟩,h4⟩,h5⟩,h6⟩,h7⟩,h8⟩,h⟩:=h;cases h;refine ⟨h1,h2,h3,h30,?_⟩
       rw [hob,zu1 st id _ hsrc];simp only;exact ⟨h4,h5,zu3 h6,h7,h8,(hag.renew id _).put hd _⟩
      ·cases h
     ·rename_i hs
      rw [hs];simp only;have hag1:Ag (st.new (.arr e te.size [])) (xs.new (.arr e te.size [])):=hag.new _
      rw [← hag1.look,← hag.next] at h;split at h
      ·rename_i l hsrc
       rw [zac] at h;simp only [Bool.and_eq_true,beq_iff,zc2,zb9] at h;obtain ⟨⟨⟨⟨⟨⟨⟨h1,h2⟩,h3⟩,h30⟩,h6⟩,h7⟩,h8⟩,h⟩:=h;cases h;refine ⟨h1,h2,h3,h30,?_⟩
       rw [zu1 (st.new (.arr e te.size [])) st.next _ hsrc];simp only;exact ⟨zu3 h6,h7,h8,(hag1.renew st.next _).put hd _⟩
      ·cases h
     ·cases h
    ·cases h
   ·cases h
  ·cases h
 ·rename_i xs' ts ho
  split at h
  ·rename_i d s t t' hx ht
   have e1:xs' = #[d,s]:=by cases xs';simp at hx;rw [hx]
   have e2:ts = #[t,t']:=by cases ts;simp at ht;rw [ht]
   subst e1;subst e2;refine zp1 hm ho hdt ?_
   unfold z8c;split at h
   ·rename_i e _ _ _ _ hte
    rw [hg.ti hte];simp only;split at h
    ·rename_i te l hte2 hsrc
     rw [hg.ti hte2];simp only;rw [zac,Bool.and_eq_true,zb9] at h;obtain ⟨⟨h1,h2⟩,h⟩:=h;rw [← hag.next] at hsrc;rw [zu1 st st.next _ hsrc];simp only;refine ⟨h1,zu3 h2,?_⟩
     split at h
     ·rename_i hds
      cases h;rw [hds];exact hag.put hd _
     ·rename_i id sz lo n hds
      rw [hds];simp only;split at h
      ·rename_i T sz' rows hob
       rw [zac] at h;simp only [Bool.and_eq_true,beq_iff,zc2] at h;obtain ⟨⟨⟨h3,h4⟩,h5⟩,h⟩:=h;cases h;rw [hob];exact ⟨h3,h4,h5,(hag.set id _).put hd _⟩
      ·cases h
     ·rename_i id hds
      rw [hds];simp only;split at h
      ·rename_i T sz' rows hob
       rw [zac,beq_iff] at h;obtain ⟨h4,h⟩:=h;cases h;rw [hob];exact ⟨h4,(hag.set id _).put hd _⟩
      ·cases h
     ·cases h
    ·cases h
   ·cases h
  ·cases h
 ·rename_i xs' ts ho
  split at h
  ·rename_i x t hx ht
   have e1:xs' = #[x]:=by cases xs';simp at hx;rw [hx]
   have e2:ts = #[t]:=by cases ts;simp at ht;rw [ht]
   subst e1;subst e2;refine znv hm ho hdt ?_
   unfold zwt;split at h
   ·rename_i e _ _ _ _ hte
    rw [hg.ti hte];simp only;split at h
    ·rename_i te hte2
     rw [hg.ti hte2];simp only;split at h
     ·rename_i z hz
      rw [hz];simp only;rw [zac,Bool.and_eq_true,beq_iff] at h;obtain ⟨⟨h1,h2⟩,h⟩:=h;refine ⟨h1,h2,?_⟩
      split at h
      ·rename_i hds
       cases h;rw [hds];exact hag.put hd _
      ·rename_i id sz lo n hds
       rw [hds];simp only;split at h
       ·rename_i T sz' rows hob
        rw [zac] at h;simp only [Bool.and_eq_true,beq_iff,zc2] at h;obtain ⟨⟨⟨h3,h4⟩,h5⟩,h⟩:=h;cases h;rw [hob];exact ⟨h3,h4,h5,(hag.set id _).put hd _⟩
       ·cases h
      ·cases h
     ·cases h
    ·cases h
   ·cases h
  ·cases h
 ·rename_i t x ho
  split at h
  ·rename_i s ht hx
   cases h;refine znx hm ho hdt ?_
   unfold zwv;rw [hg.ti ht,hx];simp only;rw [hag.next];exact (hag.new _).put hd _
  ·cases h
 ·rename_i x ho
  split at h
  ·rename_i id hx
   split at h
   ·rename_i s pos hob
    cases h;refine zp3 hm ho hdt ?_
    unfold z8e;rw [hx];simp only;rw [hob];simp only;exact (hag.set id _).put hd _
   ·cases h
  ·cases h
 ·rename_i s t x ho
  split at h
  ·rename_i y hy
   cases h;rw [← ho] at hy;exact Goes.zes hm hdt (ze9 hm o (zqs hg hy (hag.put hd y)))
  ·split at h
   ·rename_i e _ _ _ _ _ _ _ _ hs ht
    split at h
    ·rename_i rows he hsrc
     split at h
     ·rename_i bs hbs
      cases h;refine Goes.zes hm hdt (zir hm ho ?_)
      unfold zc6;rw [hg.ti hs,hg.ti ht];simp only;rw [hg.ti he];simp only;rw [← hag.next] at hsrc;rw [zu1 st st.next _ hsrc];simp only;rw [hbs];exact hag.put hd _
     ·cases h
    ·cases h
   ·rename_i e _ _ _ _ hs ht
    split at h
    ·rename_i b he hx
     obtain ⟨hb,h⟩:=zac.1 h;cases h;refine Goes.zes hm hdt (zir hm ho ?_)
     unfold zc6;rw [hg.ti hs,hg.ti ht];simp only;rw [hg.ti he,hx];simp only;exact ⟨Nat.le_of_ble_eq_true hb,hag.put hd _⟩
    ·cases h
   ·cases h
 ·rename_i f args ts ho
  exact zu0 hc hag hm ho hd hdt h
 ·split at h
  ·rename_i s hs
   cases h;exact Goes.zes hm hdt (ze9 hm o (zqs hg hs (hag.put hd s)))
  ·cases h
end
end Go.V

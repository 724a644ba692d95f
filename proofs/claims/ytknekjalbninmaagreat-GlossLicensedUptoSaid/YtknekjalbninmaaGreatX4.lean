/- A program logic of my own over the kit: part X4. It needs no conditions. -/
import Derived.Test.YtknekjalbninmaaGreatV31
set_option linter.unusedVariables false
set_option linter.unusedSimpArgs false
set_option linter.unusedSectionVars false
namespace Go.V
variable [Dr] [Ov]
open Go.RowKit
inductive Tr where
 |leaf
 |node (v:Option Sym) (l r:Tr)
 deriving Inhabited
def Tr.get:Nat->Tr->Nat->Option Sym
 |0,_,_=>none
 |_+1,.leaf,_=>none
 |k+1,.node v l r,t=>match t with
  |0=>v
  |u+1=>match Nat.beq (u%2) 0 with
   |true=>Tr.get k l (u/2)
   |false=>Tr.get k r (u/2)
def Tr.put:Nat->Tr->Nat->Sym->Tr
 |0,x,_,_=>x
 |k+1,x,t,s=>match x with
  |.leaf=>match t with
   |0=>.node (some s) .leaf .leaf
   |u+1=>match Nat.beq (u%2) 0 with
    |true=>.node none (Tr.put k .leaf (u/2) s) .leaf
    |false=>.node none .leaf (Tr.put k .leaf (u/2) s)
  |.node v l r=>match t with
   |0=>.node (some s) l r
   |u+1=>match Nat.beq (u%2) 0 with
    |true=>.node v (Tr.put k l (u/2) s) r
    |false=>.node v l (Tr.put k r (u/2) s)
def Tr.map(f:Sym->Sym):Tr->Tr
 |.leaf=>.leaf
 |.node v l r=>.node (v.map f) (Tr.map f l) (Tr.map f r)
def w8(i:Nat)(l:List Nat):List Nat:=match l.any (Nat.beq i) with
 |true=>l
 |false=>l++[i]
structure XS where
 n:Nat
 next:Nat
 slots:Tr
 own:List (Nat×Obj')
 base:Nat
 moved:List Nat
 deriving Inhabited
def dep:Nat:=12
def XS.get(xs:XS)(t:Nat):Option Sym:=xs.slots.get dep t
def O5{α:Type}:List (Nat×α)->Nat->Option α
 | [],_=>none
 |(k,v)::r,t=>match Nat.beq k t with
  |true=>some v
  |false=>O5 r t
def XS.look(xs:XS)(id:Nat):Option Obj':=O5 xs.own id
def XS.val(xs:XS):Operand->Sym
 |.tmp t=>match xs.get t with
  |some s=>s
  |none=>.junk
 |.const v=>ofConst v
 |.func f=>.fn f []
 |.global g=>match zc GT g with
  |some l=>.d (.ptr l)
  |none=>.junk
def XS.put(xs:XS)(dst:Option Tmp)(s:Sym):XS:=
 match dst with
 |some t=>{xs with slots:=xs.slots.put dep t s}
 |none=>xs
def XS.new(xs:XS)(o:Obj'):XS:={xs with next:=xs.next+1,own:=(xs.next,o)::xs.own}
def O6(id:Nat)(v:Obj'):List (Nat×Obj')->List (Nat×Obj')
 | []=>[(id,v)]
 |(k,u)::r=>match Nat.beq k id with
  |true=>(k,v)::r
  |false=>(k,u)::O6 id v r
def XS.set(xs:XS)(id:Nat)(o:Obj'):XS:={xs with own:=O6 id o xs.own}
def XS.vk(xs:XS)(id:Nat):XS:=
 match xs.look id with
 |some (.arr _ _ rows)=>{xs with slots:=xs.slots.map (thaw id (.sl rows)),own:=xZ id (.sl rows) xs.own}
 |some (.map _ rows)=>{xs with slots:=xs.slots.map (thaw id (.mp rows)),own:=xZ id (.mp rows) xs.own}
 |_=>xs
def XS.xi(xs:XS):List Nat->XS
 | []=>xs
 |id::r=>(xs.vk id).xi r
def XS.renew(xs:XS)(id:Nat)(o:Obj'):XS:={xs with moved:=(match Nat.blt id xs.base with | true=>w8 id xs.moved | false=>xs.moved),slots:=xs.slots.map (zA id),own:=xI id o xs.own}
structure XR where
 s:Sym
 nx:Nat
 own:List (Nat×Obj')
 mv:List Nat
structure XG where
 ti:Nat->Option TI
 zf:Nat->Bool
 ek:Nat->Option (List TK)
 fn:Nat->Option (Nat×Code×List ResultVar)
 sc:Nat->Bool
 kn:Nat->Option (List D->Option D)
 kc:Nat->Option (List Sym->List (Nat×Obj')->Nat->Option XR):=λ_=>none
 mf:Nat->Bool:=λ_=>false
def De{α:Type}(b:Bool)(x:Option α):Option α:=match b with
 |true=>x
 |false=>none
abbrev Caller:=Nat->List Sym->List (Nat×Obj')->Nat->Option XR
mutual
def zkw:Sym->List Nat->List Nat
 |.bp i _,l=>w8 i l
 |.ar i,l=>w8 i l
 |.ap i _ _ _,l=>w8 i l
 |.aS i _ _ _,l=>w8 i l
 |.av i _ _ _,l=>w8 i l
 |.yd i,l=>w8 i l
 |.mp i,l=>w8 i l
 |.tup s,l=>VX s l
 |.agg s,l=>VX s l
 |.fn _ s,l=>VX s l
 |_,l=>l
def VX:List Sym->List Nat->List Nat
 | [],l=>l
 |s::r,l=>VX r (zkw s l)
end
mutual
def zkx:Sym->List Nat
 |.ar i=>[i]
 |.agg l=>O7 l
 |_=>[]
def O7:List Sym->List Nat
 | []=>[]
 |s::r=>zkx s++O7 r
end
mutual
def zky:Sym->List Nat->List Nat
 |.bp i _,l=>w8 i l
 |.ap i _ _ _,l=>w8 i l
 |.aS i _ _ _,l=>w8 i l
 |.av i _ _ _,l=>w8 i l
 |.yd i,l=>w8 i l
 |.mp i,l=>w8 i l
 |.tup s,l=>Df s l
 |.agg s,l=>Df s l
 |.fn _ s,l=>VX s l
 |_,l=>l
def Df:List Sym->List Nat->List Nat
 | [],l=>l
 |s::r,l=>Df r (zky s l)
end
def Zw(ids:List Nat)(i:Nat):Nat:=match ids with
 | []=>i
 |j::r=>match Nat.beq i j with
  |true=>0
  |false=>Nat.succ (Zw r i)
mutual
def km(ids:List Nat):Sym->Bool
 |.bp i _=>ids.any (Nat.beq i)
 |.ar i=>ids.any (Nat.beq i)
 |.ap i _ _ _=>ids.any (Nat.beq i)
 |.aS i _ _ _=>ids.any (Nat.beq i)
 |.av i _ _ _=>ids.any (Nat.beq i)
 |.yd i=>ids.any (Nat.beq i)
 |.mp i=>ids.any (Nat.beq i)
 |.tup l=>Q6 ids l
 |.agg l=>Q6 ids l
 |.fn _ l=>Q6 ids l
 |_=>true
def Q6(ids:List Nat):List Sym->Bool
 | []=>true
 |s::r=>km ids s&&Q6 ids r
end
def nodupB:List Nat->Bool
 | []=>true
 |i::r=>!r.any (Nat.beq i)&&nodupB r
def XS.after(xs:XS)(ids:List Nat)(nx:Nat)(own':List (Nat×Obj'))(mv:List Nat):XS:=
 {xs with next:=xs.next+(nx-ids.length),slots:=(match mv with | []=>xs.slots | _=>xs.slots.map (zS (mv.map (yA ids xs.next)))),own:=wM (yA ids xs.next) own'++vT ids (mv.map (yA ids xs.next)) xs.own,moved:=mv.map (yA ids xs.next)++xs.moved}
def Zx(dst:Option Tmp)(n:Nat):Bool:=match dst with
 |some t=>Nat.blt t n&&Nat.blt t 4095
 |none=>true
abbrev Runner:=Code->XS->Option (DE×XS)
def u6:DE->Option Code
 |.normal=>none
 |.ret=>some .ret
 |.exit i=>some (.exit i)
def Ks:DE->LoopState
 |.normal=>.ready
 |_=>.done
def VY:DE->Bool
 |.normal=>true
 |_=>false
mutual
def ko(m:Nat):Sym->Bool
 |.bp i _=>Nat.blt i m
 |.ar i=>Nat.blt i m
 |.ap i _ _ _=>Nat.blt i m
 |.aS i _ _ _=>Nat.blt i m
 |.av i _ _ _=>Nat.blt i m
 |.yd i=>Nat.blt i m
 |.mp i=>Nat.blt i m
 |.tup l=>Q7 m l
 |.agg l=>Q7 m l
 |.fn _ l=>Q7 m l
 |_=>true
def Q7(m:Nat):List Sym->Bool
 | []=>true
 |s::r=>ko m s&&Q7 m r
end
mutual
def zlh:Sym->List Nat
 |.aS i _ _ _=>[i]
 |.agg l=>Dg l
 |.tup l=>Dg l
 |_=>[]
def Dg:List Sym->List Nat
 | []=>[]
 |s::r=>zlh s++Dg r
end
end Go.V
namespace Go.V
variable [Dr] [Ov]
open Go.RowKit
theorem Dh{α:Type}{b:Bool}{x:Option α}{s:α}:De b x=some s↔b=true/\x=some s:=by cases b <;> simp[De]
theorem beq_iff{a b:Nat}:Nat.beq a b=true↔a=b:=by rw[Nat.beq_eq]
theorem gC{a b:Nat}:Nat.blt a b=true↔a<b:=by rw[Nat.blt_eq]
theorem Tr.Q8:∀ (k t:Nat),Tr.get k .leaf t=none
 |0,_=>rfl
 |_+1,_=>rfl
theorem Tr.get_put:∀ (k:Nat) (x:Tr) (t:Nat) (s:Sym) (u:Nat),t+1<2^k->Tr.get k (Tr.put k x t s) u=if t=u then some s else Tr.get k x u
 |0,x,t,s,u,h=>by omega
 |k+1,x,t,s,u,h=>by
  have F:∀ t',t'+1+1<2^(k+1)->t'/2+1<2^k:=by intro t' E;rw[Nat.pow_succ] at E;omega
  cases x with
  |leaf=>
   cases t with
   |zero=>
    cases u with
    |zero=>simp[Tr.put,Tr.get]
    |succ u=>
     simp only[Tr.put,Tr.get,Tr.Q8];cases Nat.beq (u%2) 0 <;> simp
   |succ t=>
    have ih:=Tr.get_put k .leaf (t/2) s;simp only[Tr.put];cases K:Nat.beq (t%2) 0 with
    |true=>
     have G:=beq_iff.1 K;cases u with
     |zero=>simp[Tr.get]
     |succ u=>
      simp only[Tr.get];cases J:Nat.beq (u%2) 0 with
      |true=>
       have H:=beq_iff.1 J;simp only[ih (u/2) (F t h),Tr.Q8];by_cases e:t=u
       .subst e;simp
       .have:¬t/2=u/2:=by omega
        simp[e,this]
      |false=>
       have H:u%2≠0:=λe=>by rw[beq_iff.2 e] at J;cases J
       have:¬t=u:=λe=>H (e▸G)
       simp[this,Tr.Q8]
    |false=>
     have G:t%2≠0:=λe=>by rw[beq_iff.2 e] at K;cases K
     cases u with
     |zero=>simp[Tr.get]
     |succ u=>
      simp only[Tr.get];cases J:Nat.beq (u%2) 0 with
      |false=>
       have H:u%2≠0:=λe=>by rw[beq_iff.2 e] at J;cases J
       simp only[ih (u/2) (F t h),Tr.Q8];by_cases e:t=u
       .subst e;simp
       .have:¬t/2=u/2:=by omega
        simp[e,this]
      |true=>
       have H:=beq_iff.1 J;have:¬t=u:=λe=>G (e▸H)
       simp[this,Tr.Q8]
  |node v l r=>
   cases t with
   |zero=>
    cases u with
    |zero=>simp[Tr.put,Tr.get]
    |succ u=>simp[Tr.put,Tr.get]
   |succ t=>
    simp only[Tr.put];cases K:Nat.beq (t%2) 0 with
    |true=>
     have ih:=Tr.get_put k l (t/2) s;have G:=beq_iff.1 K;cases u with
     |zero=>simp[Tr.get]
     |succ u=>
      simp only[Tr.get];cases J:Nat.beq (u%2) 0 with
      |true=>
       have H:=beq_iff.1 J;simp only[ih (u/2) (F t h)];by_cases e:t=u
       .subst e;simp
       .have:¬t/2=u/2:=by omega
        simp[e,this]
      |false=>
       have H:u%2≠0:=λe=>by rw[beq_iff.2 e] at J;cases J
       have:¬t=u:=λe=>H (e▸G)
       simp[this]
    |false=>
     have ih:=Tr.get_put k r (t/2) s;have G:t%2≠0:=λe=>by rw[beq_iff.2 e] at K;cases K
     cases u with
     |zero=>simp[Tr.get]
     |succ u=>
      simp only[Tr.get];cases J:Nat.beq (u%2) 0 with
      |false=>
       have H:u%2≠0:=λe=>by rw[beq_iff.2 e] at J;cases J
       simp only[ih (u/2) (F t h)];by_cases e:t=u
       .subst e;simp
       .have:¬t/2=u/2:=by omega
        simp[e,this]
      |true=>
       have H:=beq_iff.1 J;have:¬t=u:=λe=>G (e▸H)
       simp[this]
mutual
theorem ze7:∀ (s:Sym),zS [] s=s
 |.ar i=>by simp[zS]
 |.ap i s j o=>by simp[zS]
 |.aS i s j o=>by simp[zS]
 |.av i s j o=>by simp[zS]
 |.yd i=>by simp[zS]
 |.bp i o=>by simp[zS]
 |.mp i=>by simp[zS]
 |.agg l=>by simp[zS,Kt l]
 |.tup l=>by simp[zS,Kt l]
 |.fn f l=>by simp[zS,Kt l]
 |.d x=>by simp[zS]
 |.nils=>by simp[zS]
 |.junk=>by simp[zS]
theorem Kt:∀ (l:List Sym),qt [] l=l
 | []=>by simp[qt]
 |s::r=>by simp[qt,ze7 s,Kt r]
end
theorem any_beq{i:Nat}{l:List Nat}:l.any (Nat.beq i)=true↔i∈l:=by
 rw[List.any_eq_true]
 constructor
 .rintro⟨x,H,h⟩;rw[beq_iff] at h;subst h;exact H
 .exact λh=>⟨i,h,beq_iff.2 rfl⟩
structure Ag(st:St)(xs:XS):Prop where
 n:st.n=xs.n
 next:st.next=xs.next
 own:st.own=xs.own
 base:st.base=xs.base
 moved:∀ id,id<st.base->id∈st.moved->id∈xs.moved
 slots:∀ t,zc st.slots t=xs.get t
section
variable {st:St} {xs:XS}
theorem Ag.val(h:Ag st xs):st.val=xs.val:=by
 funext x
 cases x with
 |tmp t=>
  simp only[St.val,XS.val,h.slots];cases xs.get t <;> rfl
 |_=>rfl
theorem Ku{dst:Option Tmp}{n:Nat}(h:Zx dst n=true):(∀ t,dst=some t->t<n)/\(∀ t,dst=some t->t+1<4096):=by
 constructor <;> intro t e <;> subst e <;> simp only[Zx,Bool.and_eq_true,gC] at h
 .exact h.1
 .exact Nat.add_lt_add_right h.2 1
theorem Ag.put(h:Ag st xs){dst:Option Tmp}{n:Nat}(H:Zx dst n=true)(s:Sym):Ag (st.put dst s) (xs.put dst s):=by
 cases dst with
 |none=>exact h
 |some t=>
  have G:=(Ku H).2 t rfl;refine⟨h.n,h.next,h.own,h.base,h.moved,λu=>?_⟩
  show(if t=u then some s else zc st.slots u)=Tr.get dep (Tr.put dep xs.slots t s) u
  rw[Tr.get_put dep xs.slots t s u (by simpa[dep] using G),h.slots];rfl
end
section
variable {P:Program} {Γ:XG} {look:Nat->Option Obj'} {ρ:Operand->Sym} {k:Sym->Prop} {s:Sym}
end
end Go.V
namespace Go.V
variable [Dr] [Ov]
open Go.RowKit
theorem Zy:∀ {ids:List Nat} {i:Nat},i∈ids->rho ids (Zw ids i)=i/\Zw ids i<ids.length
 |j::r,i,h=>by
  simp only[Zw];cases G:Nat.beq i j with
  |true=>rw[beq_iff] at G;subst G;simp[rho]
  |false=>
   have H:i≠j:=λe=>by rw[beq_iff.2 e] at G;cases G
   have F:i∈r:=by rcases List.mem_cons.1 h with h | h;exact absurd h H;exact h
   obtain⟨E,K⟩:=Zy F;simp only[rho] at E ⊢;simp only[List.getD_cons_succ,List.length_cons];exact⟨E,by omega⟩
mutual
theorem zj2{ids:List Nat}:∀ {s:Sym},km ids s=true->ren (rho ids) (ren (Zw ids) s)=s/\Sym.lo ids.length (ren (Zw ids) s)
 |.bp i o,h=>by simp only[km,any_beq] at h;have:=Zy h;simp only[ren,Sym.lo];exact⟨by rw[this.1],this.2⟩
 |.ar i,h=>by simp only[km,any_beq] at h;have:=Zy h;simp only[ren,Sym.lo];exact⟨by rw[this.1],this.2⟩
 |.ap i s j o,h=>by simp only[km,any_beq] at h;have:=Zy h;simp only[ren,Sym.lo];exact⟨by rw[this.1],this.2⟩
 |.aS i s j o,h=>by simp only[km,any_beq] at h;have:=Zy h;simp only[ren,Sym.lo];exact⟨by rw[this.1],this.2⟩
 |.av i s j o,h=>by simp only[km,any_beq] at h;have:=Zy h;simp only[ren,Sym.lo];exact⟨by rw[this.1],this.2⟩
 |.yd i,h=>by simp only[km,any_beq] at h;have:=Zy h;simp only[ren,Sym.lo];exact⟨by rw[this.1],this.2⟩
 |.mp i,h=>by simp only[km,any_beq] at h;have:=Zy h;simp only[ren,Sym.lo];exact⟨by rw[this.1],this.2⟩
 |.tup l,h=>by simp only[km] at h;have:=Kv h;simp[ren,Sym.lo,this.1,this.2]
 |.agg l,h=>by simp only[km] at h;have:=Kv h;simp[ren,Sym.lo,this.1,this.2]
 |.fn f l,h=>by simp only[km] at h;have:=Kv h;simp[ren,Sym.lo,this.1,this.2]
 |.d x,h=>by simp[ren,Sym.lo]
 |.nils,h=>by simp[ren,Sym.lo]
 |.junk,h=>by simp[ren,Sym.lo]
theorem Kv{ids:List Nat}:∀ {l:List Sym},Q6 ids l=true->yp (rho ids) (yp (Zw ids) l)=l/\Sym.los ids.length (yp (Zw ids) l)
 | [],h=>by simp[yp,Sym.los]
 |s::r,h=>by
  simp only[Q6,Bool.and_eq_true] at h;have H:=zj2 h.1;have G:=Kv h.2;simp[yp,Sym.los,H.1,H.2,G.1,G.2]
end
theorem O8:∀ {l:List Nat},nodupB l=true->l.Nodup
 | [],_=>List.nodup_nil
 |i::r,h=>by
  simp only[nodupB,Bool.and_eq_true,Bool.not_eq_true'] at h;refine List.nodup_cons.2 ⟨λhm=>?_,O8 h.2⟩
  rw[any_beq.2 hm] at h;cases h.1
section
variable {P:Program} {Γ:XG} {call:Caller} {X:Nat->Prop} {w0:Base} {st:St} {xs xs':XS} {β:Nat->Value} {a:Act} {w:World}
end
end Go.V
namespace Go.V
variable [Dr] [Ov]
open Go.RowKit
section
variable {P:Program} {Γ:XG} {call:Caller} {X:Nat->Prop} {w0:Base} {st:St} {xs xs':XS} {β:Nat->Value} {a:Act} {w:World}
end
end Go.V

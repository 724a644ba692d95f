/- A program logic of my own over the kit: part X4. It needs no conditions. -/
import Derived.Test.YtknekjalbninmaaGreatV31
set_option linter.all false
namespace Go.V
variable [Dr] [Ov]
open Go.RowKit
inductive Tr where
 |fw
 |gD (v:Option ah) (l r:Tr)
 deriving Inhabited
def Tr.get:Nat->Tr->Nat->Option ah
 |0,_,_=>none
 |_+1,.fw,_=>none
 |k+1,.gD v l r,t=>match t with
  |0=>v
  |u+1=>match Nat.beq (u%2) 0 with
   |true=>Tr.get k l (u/2)
   |false=>Tr.get k r (u/2)
def Tr.put:Nat->Tr->Nat->ah->Tr
 |0,x,_,_=>x
 |k+1,x,t,s=>match x with
  |.fw=>match t with
   |0=>.gD (some s) .fw .fw
   |u+1=>match Nat.beq (u%2) 0 with
    |true=>.gD none (Tr.put k .fw (u/2) s) .fw
    |false=>.gD none .fw (Tr.put k .fw (u/2) s)
  |.gD v l r=>match t with
   |0=>.gD (some s) l r
   |u+1=>match Nat.beq (u%2) 0 with
    |true=>.gD v (Tr.put k l (u/2) s) r
    |false=>.gD v l (Tr.put k r (u/2) s)
def Tr.map(f:ah->ah):Tr->Tr
 |.fw=>.fw
 |.gD v l r=>.gD (v.map f) (Tr.map f l) (Tr.map f r)
def kg(i:Nat)(l:List Nat):List Nat:=match l.any (Nat.beq i) with
 |true=>l
 |false=>l++[i]
structure XS where
 n:Nat
 next:Nat
 af:Tr
 own:List (Nat×am)
 ai:Nat
 aA:List Nat
 deriving Inhabited
def iI:Nat:=12
def XS.get(xs:XS)(t:Nat):Option ah:=xs.af.get iI t
def AA{α:Type}:List (Nat×α)->Nat->Option α
 | [],_=>none
 |(k,v)::r,t=>match Nat.beq k t with
  |true=>some v
  |false=>AA r t
def XS.ay(xs:XS)(id:Nat):Option am:=AA xs.own id
def XS.val(xs:XS):Operand->ah
 |.tmp t=>match xs.get t with
  |some s=>s
  |none=>.junk
 |.const v=>bY v
 |.func f=>.fn f []
 |.global g=>match zc GT g with
  |some l=>.d (.ptr l)
  |none=>.junk
def XS.put(xs:XS)(dst:Option Tmp)(s:ah):XS:=
 match dst with
 |some t=>{xs with af:=xs.af.put iI t s}
 |none=>xs
def XS.new(xs:XS)(o:am):XS:={xs with next:=xs.next+1,own:=(xs.next,o)::xs.own}
def AB(id:Nat)(v:am):List (Nat×am)->List (Nat×am)
 | []=>[(id,v)]
 |(k,u)::r=>match Nat.beq k id with
  |true=>(k,v)::r
  |false=>(k,u)::AB id v r
def XS.set(xs:XS)(id:Nat)(o:am):XS:={xs with own:=AB id o xs.own}
def XS.vP(xs:XS)(id:Nat):XS:=
 match xs.ay id with
 |some (.aQ _ _ rows)=>{xs with af:=xs.af.map (bX id (.sl rows)),own:=qw id (.sl rows) xs.own}
 |some (.map _ rows)=>{xs with af:=xs.af.map (bX id (.mp rows)),own:=qw id (.mp rows) xs.own}
 |_=>xs
def XS.xn(xs:XS):List Nat->XS
 | []=>xs
 |id::r=>(xs.vP id).xn r
def XS.aV(xs:XS)(id:Nat)(o:am):XS:={xs with aA:=(match Nat.blt id xs.ai with | true=>kg id xs.aA | false=>xs.aA),af:=xs.af.map (zA id),own:=qf id o xs.own}
structure XR where
 s:ah
 nx:Nat
 own:List (Nat×am)
 mv:List Nat
structure XG where
 ti:Nat->Option TI
 zf:Nat->Bool
 ek:Nat->Option (List TK)
 fn:Nat->Option (Nat×Code×List ResultVar)
 sc:Nat->Bool
 kn:Nat->Option (List D->Option D)
 kc:Nat->Option (List ah->List (Nat×am)->Nat->Option XR):=λ_=>none
 mf:Nat->Bool:=λ_=>false
def Ea{α:Type}(b:Bool)(x:Option α):Option α:=match b with
 |true=>x
 |false=>none
abbrev dH:=Nat->List ah->List (Nat×am)->Nat->Option XR
mutual
def zue:ah->List Nat->List Nat
 |.bp i _,l=>kg i l
 |.ar i,l=>kg i l
 |.ap i _ _ _,l=>kg i l
 |.a_s i _ _ _,l=>kg i l
 |.av i _ _ _,l=>kg i l
 |.yd i,l=>kg i l
 |.mp i,l=>kg i l
 |.bE s,l=>JZ s l
 |.agg s,l=>JZ s l
 |.fn _ s,l=>JZ s l
 |_,l=>l
def JZ:List ah->List Nat->List Nat
 | [],l=>l
 |s::r,l=>JZ r (zue s l)
end
mutual
def zuf:ah->List Nat
 |.ar i=>[i]
 |.agg l=>AE l
 |_=>[]
def AE:List ah->List Nat
 | []=>[]
 |s::r=>zuf s++AE r
end
mutual
def zug:ah->List Nat->List Nat
 |.bp i _,l=>kg i l
 |.ap i _ _ _,l=>kg i l
 |.a_s i _ _ _,l=>kg i l
 |.av i _ _ _,l=>kg i l
 |.yd i,l=>kg i l
 |.mp i,l=>kg i l
 |.bE s,l=>Eb s l
 |.agg s,l=>Eb s l
 |.fn _ s,l=>JZ s l
 |_,l=>l
def Eb:List ah->List Nat->List Nat
 | [],l=>l
 |s::r,l=>Eb r (zug s l)
end
def Yz(aD:List Nat)(i:Nat):Nat:=match aD with
 | []=>i
 |j::r=>match Nat.beq i j with
  |true=>0
  |false=>Nat.succ (Yz r i)
mutual
def uF(aD:List Nat):ah->Bool
 |.bp i _=>aD.any (Nat.beq i)
 |.ar i=>aD.any (Nat.beq i)
 |.ap i _ _ _=>aD.any (Nat.beq i)
 |.a_s i _ _ _=>aD.any (Nat.beq i)
 |.av i _ _ _=>aD.any (Nat.beq i)
 |.yd i=>aD.any (Nat.beq i)
 |.mp i=>aD.any (Nat.beq i)
 |.bE l=>Ve aD l
 |.agg l=>Ve aD l
 |.fn _ l=>Ve aD l
 |_=>true
def Ve(aD:List Nat):List ah->Bool
 | []=>true
 |s::r=>uF aD s&&Ve aD r
end
def eP:List Nat->Bool
 | []=>true
 |i::r=>!r.any (Nat.beq i)&&eP r
def XS.after(xs:XS)(aD:List Nat)(nx:Nat)(own':List (Nat×am))(mv:List Nat):XS:=
 {xs with next:=xs.next+(nx-aD.length),af:=(match mv with | []=>xs.af | _=>xs.af.map (zQ (mv.map (yE aD xs.next)))),own:=kS (yE aD xs.next) own'++jB aD (mv.map (yE aD xs.next)) xs.own,aA:=mv.map (yE aD xs.next)++xs.aA}
def YA(dst:Option Tmp)(n:Nat):Bool:=match dst with
 |some t=>Nat.blt t n&&Nat.blt t 4095
 |none=>true
abbrev iA:=Code->XS->Option (DE×XS)
def gm:DE->Option Code
 |.normal=>none
 |.ret=>some .ret
 |.exit i=>some (.exit i)
def UV:DE->LoopState
 |.normal=>.ready
 |_=>.done
def W0:DE->Bool
 |.normal=>true
 |_=>false
mutual
def uG(m:Nat):ah->Bool
 |.bp i _=>Nat.blt i m
 |.ar i=>Nat.blt i m
 |.ap i _ _ _=>Nat.blt i m
 |.a_s i _ _ _=>Nat.blt i m
 |.av i _ _ _=>Nat.blt i m
 |.yd i=>Nat.blt i m
 |.mp i=>Nat.blt i m
 |.bE l=>Vf m l
 |.agg l=>Vf m l
 |.fn _ l=>Vf m l
 |_=>true
def Vf(m:Nat):List ah->Bool
 | []=>true
 |s::r=>uG m s&&Vf m r
end
mutual
def zu4:ah->List Nat
 |.a_s i _ _ _=>[i]
 |.agg l=>Ec l
 |.bE l=>Ec l
 |_=>[]
def Ec:List ah->List Nat
 | []=>[]
 |s::r=>zu4 s++Ec r
end
end Go.V
namespace Go.V
variable [Dr] [Ov]
open Go.RowKit
theorem UW{α:Type}{b:Bool}{x:Option α}{s:α}:Ea b x=some s↔b=true/\x=some s:=by cases b <;> simp[Ea]
theorem bm{a b:Nat}:Nat.beq a b=true↔a=b:=by rw[Nat.beq_eq]
theorem ZN{a b:Nat}:Nat.blt a b=true↔a<b:=by rw[Cy]
theorem Tr.Vg:∀ (k t:Nat),Tr.get k .fw t=none
 |0,_=>rfl
 |_+1,_=>rfl
theorem Tr.eX:∀ (k:Nat) (x:Tr) (t:Nat) (s:ah) (u:Nat),t+1<2^k->Tr.get k (Tr.put k x t s) u=if t=u then some s else Tr.get k x u
 |0,x,t,s,u,h=>by omega
 |k+1,x,t,s,u,h=>by
  have F:∀ t',t'+1+1<2^(k+1)->t'/2+1<2^k:=by intro t' E;rw[At] at E;omega
  cases x with
  |fw=>
   cases t with
   |zero=>
    cases u with
    |zero=>simp[Tr.put,Tr.get]
    |succ u=>
     simp only[Tr.put,Tr.get,Tr.Vg];cases Nat.beq (u%2) 0 <;> simp
   |succ t=>
    have ih:=Tr.eX k .fw (t/2) s;simp only[Tr.put];cases K:Nat.beq (t%2) 0 with
    |true=>
     have G:=bm.1 K;cases u with
     |zero=>simp[Tr.get]
     |succ u=>
      simp only[Tr.get];cases J:Nat.beq (u%2) 0 with
      |true=>
       have H:=bm.1 J;simp only[ih (u/2) (F t h),Tr.Vg];by_cases e:t=u
       .subst e;simp
       .have:¬t/2=u/2:=by omega
        simp[e,this]
      |false=>
       have H:u%2≠0:=λe=>by rw[bm.2 e] at J;cases J
       have:¬t=u:=λe=>H (e▸G)
       simp[this,Tr.Vg]
    |false=>
     have G:t%2≠0:=λe=>by rw[bm.2 e] at K;cases K
     cases u with
     |zero=>simp[Tr.get]
     |succ u=>
      simp only[Tr.get];cases J:Nat.beq (u%2) 0 with
      |false=>
       have H:u%2≠0:=λe=>by rw[bm.2 e] at J;cases J
       simp only[ih (u/2) (F t h),Tr.Vg];by_cases e:t=u
       .subst e;simp
       .have:¬t/2=u/2:=by omega
        simp[e,this]
      |true=>
       have H:=bm.1 J;have:¬t=u:=λe=>G (e▸H)
       simp[this,Tr.Vg]
  |gD v l r=>
   cases t with
   |zero=>
    cases u with
    |zero=>simp[Tr.put,Tr.get]
    |succ u=>simp[Tr.put,Tr.get]
   |succ t=>
    simp only[Tr.put];cases K:Nat.beq (t%2) 0 with
    |true=>
     have ih:=Tr.eX k l (t/2) s;have G:=bm.1 K;cases u with
     |zero=>simp[Tr.get]
     |succ u=>
      simp only[Tr.get];cases J:Nat.beq (u%2) 0 with
      |true=>
       have H:=bm.1 J;simp only[ih (u/2) (F t h)];by_cases e:t=u
       .subst e;simp
       .have:¬t/2=u/2:=by omega
        simp[e,this]
      |false=>
       have H:u%2≠0:=λe=>by rw[bm.2 e] at J;cases J
       have:¬t=u:=λe=>H (e▸G)
       simp[this]
    |false=>
     have ih:=Tr.eX k r (t/2) s;have G:t%2≠0:=λe=>by rw[bm.2 e] at K;cases K
     cases u with
     |zero=>simp[Tr.get]
     |succ u=>
      simp only[Tr.get];cases J:Nat.beq (u%2) 0 with
      |false=>
       have H:u%2≠0:=λe=>by rw[bm.2 e] at J;cases J
       simp only[ih (u/2) (F t h)];by_cases e:t=u
       .subst e;simp
       .have:¬t/2=u/2:=by omega
        simp[e,this]
      |true=>
       have H:=bm.1 J;have:¬t=u:=λe=>G (e▸H)
       simp[this]
mutual
theorem zis:∀ (s:ah),zQ [] s=s
 |.ar i=>by simp[zQ]
 |.ap i s j o=>by simp[zQ]
 |.a_s i s j o=>by simp[zQ]
 |.av i s j o=>by simp[zQ]
 |.yd i=>by simp[zQ]
 |.bp i o=>by simp[zQ]
 |.mp i=>by simp[zQ]
 |.agg l=>by simp[zQ,UX l]
 |.bE l=>by simp[zQ,UX l]
 |.fn f l=>by simp[zQ,UX l]
 |.d x=>by simp[zQ]
 |.aW=>by simp[zQ]
 |.junk=>by simp[zQ]
theorem UX:∀ (l:List ah),qX [] l=l
 | []=>by simp[qX]
 |s::r=>by simp[qX,zis s,UX r]
end
theorem cX{i:Nat}{l:List Nat}:l.any (Nat.beq i)=true↔i∈l:=by
 rw[n_]
 constructor
 .rintro⟨x,H,h⟩;rw[bm] at h;subst h;exact H
 .exact λh=>⟨i,h,bm.2 rfl⟩
structure Ag(st:St)(xs:XS):Prop where
 n:st.n=xs.n
 next:st.next=xs.next
 own:st.own=xs.own
 ai:st.ai=xs.ai
 aA:∀ id,id<st.ai->id∈st.aA->id∈xs.aA
 af:∀ t,zc st.af t=xs.get t
section
variable {st:St} {xs:XS}
theorem Ag.val(h:Ag st xs):st.val=xs.val:=by
 funext x
 cases x with
 |tmp t=>
  simp only[St.val,XS.val,h.af];cases xs.get t <;> rfl
 |_=>rfl
theorem UY{dst:Option Tmp}{n:Nat}(h:YA dst n=true):(∀ t,dst=some t->t<n)/\(∀ t,dst=some t->t+1<4096):=by
 constructor <;> intro t e <;> subst e <;> simp only[YA,nI,ZN] at h
 .exact h.1
 .exact Nat.add_lt_add_right h.2 1
theorem Ag.put(h:Ag st xs){dst:Option Tmp}{n:Nat}(H:YA dst n=true)(s:ah):Ag (st.put dst s) (xs.put dst s):=by
 cases dst with
 |none=>exact h
 |some t=>
  have G:=(UY H).2 t rfl;refine⟨h.n,h.next,h.own,h.ai,h.aA,λu=>?_⟩
  show(if t=u then some s else zc st.af u)=Tr.get iI (Tr.put iI xs.af t s) u
  rw[Tr.eX iI xs.af t s u (by simpa[iI] using G),h.af];rfl
end
section
variable {P:Program} {Γ:XG} {ay:Nat->Option am} {ρ:Operand->ah} {k:ah->Prop} {s:ah}
end
end Go.V
namespace Go.V
variable [Dr] [Ov]
open Go.RowKit
theorem YB:∀ {aD:List Nat} {i:Nat},i∈aD->ce aD (Yz aD i)=i/\Yz aD i<aD.length
 |j::r,i,h=>by
  simp only[Yz];cases G:Nat.beq i j with
  |true=>rw[bm] at G;subst G;simp[ce]
  |false=>
   have H:i≠j:=λe=>by rw[bm.2 e] at G;cases G
   have F:i∈r:=by rcases nE.1 h with h | h;exact absurd h H;exact h
   obtain⟨E,K⟩:=YB F;simp only[ce] at E ⊢;simp only[B_,nP];exact⟨E,by omega⟩
mutual
theorem zsz{aD:List Nat}:∀ {s:ah},uF aD s=true->cg (ce aD) (cg (Yz aD) s)=s/\ah.lo aD.length (cg (Yz aD) s)
 |.bp i o,h=>by simp only[uF,cX] at h;have:=YB h;simp only[cg,ah.lo];exact⟨by rw[this.1],this.2⟩
 |.ar i,h=>by simp only[uF,cX] at h;have:=YB h;simp only[cg,ah.lo];exact⟨by rw[this.1],this.2⟩
 |.ap i s j o,h=>by simp only[uF,cX] at h;have:=YB h;simp only[cg,ah.lo];exact⟨by rw[this.1],this.2⟩
 |.a_s i s j o,h=>by simp only[uF,cX] at h;have:=YB h;simp only[cg,ah.lo];exact⟨by rw[this.1],this.2⟩
 |.av i s j o,h=>by simp only[uF,cX] at h;have:=YB h;simp only[cg,ah.lo];exact⟨by rw[this.1],this.2⟩
 |.yd i,h=>by simp only[uF,cX] at h;have:=YB h;simp only[cg,ah.lo];exact⟨by rw[this.1],this.2⟩
 |.mp i,h=>by simp only[uF,cX] at h;have:=YB h;simp only[cg,ah.lo];exact⟨by rw[this.1],this.2⟩
 |.bE l,h=>by simp only[uF] at h;have:=UZ h;simp[cg,ah.lo,this.1,this.2]
 |.agg l,h=>by simp only[uF] at h;have:=UZ h;simp[cg,ah.lo,this.1,this.2]
 |.fn f l,h=>by simp only[uF] at h;have:=UZ h;simp[cg,ah.lo,this.1,this.2]
 |.d x,h=>by simp[cg,ah.lo]
 |.aW,h=>by simp[cg,ah.lo]
 |.junk,h=>by simp[cg,ah.lo]
theorem UZ{aD:List Nat}:∀ {l:List ah},Ve aD l=true->yf (ce aD) (yf (Yz aD) l)=l/\ah.a_ aD.length (yf (Yz aD) l)
 | [],h=>by simp[yf,ah.a_]
 |s::r,h=>by
  simp only[Ve,nI] at h;have H:=zsz h.1;have G:=UZ h.2;simp[yf,ah.a_,H.1,H.2,G.1,G.2]
end
theorem AG:∀ {l:List Nat},eP l=true->l.Nodup
 | [],_=>tZ
 |i::r,h=>by
  simp only[eP,nI,pS] at h;refine oE.2 ⟨λhm=>?_,AG h.2⟩
  rw[cX.2 hm] at h;cases h.1
section
variable {P:Program} {Γ:XG} {call:dH} {X:Nat->Prop} {w0:bz} {st:St} {xs xs':XS} {β:Nat->Value} {a:Act} {w:World}
end
end Go.V
namespace Go.V
variable [Dr] [Ov]
open Go.RowKit
section
variable {P:Program} {Γ:XG} {call:dH} {X:Nat->Prop} {w0:bz} {st:St} {xs xs':XS} {β:Nat->Value} {a:Act} {w:World}
end
end Go.V
